/- The plain law of a bundle: slices in one text, and how the text is taken apart. -/
import Derived.Test.YthhhlaoiampinaaDoorSpcD
import Derived.Test.YthhhlaoiampinaaDoorCutC
import Derived.Lib.IndexMore
namespace Go.Proofs.YthhhlaoiampinaaDoor
open Go.RowKit
namespace Spb
open Spc
def labL : List UInt8 := [67, 111, 110, 116, 101, 110, 116, 45, 82, 97, 110, 103, 101, 58, 32]
def headL (B : List UInt8) : List UInt8 := [45, 45] ++ B ++ [13, 10] ++ labL
def endL (B : List UInt8) : List UInt8 := [45, 45] ++ B ++ [45, 45] ++ [13, 10]
def cutT (D : List UInt8) (d : Int × Int) : List UInt8 := (D.drop d.1.toNat).take (d.2.toNat - d.1.toNat)
def part (B D : List UInt8) (n : Int) (d : Int × Int) : List UInt8 := headL B ++ conL d.1 d.2 n ++ [13, 10] ++ [13, 10] ++ cutT D d ++ [13, 10]
def bunL (B D : List UInt8) (n : Int) (l : List (Int × Int)) : List UInt8 := l.flatMap (part B D n) ++ endL B
def okL (n : Int) (l : List (Int × Int)) : Prop := ∀ d ∈ l, conB d.1 d.2 n = true
theorem bunL_cons (B D : List UInt8) (n : Int) (d : Int × Int) (l : List (Int × Int)) : bunL B D n (d :: l) = headL B ++ (conL d.1 d.2 n ++ [13, 10, 13, 10] ++ (cutT D d ++ ([13, 10] ++ bunL B D n l))) := by
  unfold bunL part
  rw [List.flatMap_cons]
  simp only [List.append_assoc, List.cons_append, List.nil_append]
theorem bunL_nil (B D : List UInt8) (n : Int) : bunL B D n [] = endL B := rfl
theorem bunL_ne (B D : List UInt8) (n : Int) (d : Int × Int) (l : List (Int × Int)) : bunL B D n (d :: l) ≠ endL B := by
  intro h
  rw [bunL_cons] at h
  unfold headL endL at h
  simp only [List.append_assoc] at h
  have h1 := List.append_cancel_left (List.append_cancel_left h)
  simp at h1
theorem conL_no13 {x y n : Int} (h : conB x y n = true) : (13 : UInt8) ∉ conL x y n := by
  obtain ⟨h1, h2, h3⟩ := conB_num h
  have q : ∀ v : Int, nB v = true → (13 : UInt8) ∉ Lib.itoa v := fun v hv => not_in hv (by decide)
  unfold conL
  simp only [List.mem_append, List.mem_cons, not_or]
  exact ⟨by decide, q _ h1, by decide, q _ h2, by decide, q _ h3⟩
theorem index_first1 (c : UInt8) (t r : List UInt8) : ∀ a : List UInt8, c ∉ a → Lib.index (a ++ ((c :: t) ++ r)) (c :: t) = (a.length : Int)
  | [], _ => by
    show Lib.index (c :: (t ++ r)) (c :: t) = _
    unfold Lib.index
    rw [if_pos (by simp [List.isPrefixOf])]; rfl
  | x :: a, h => by
    have hx : ¬ c = x := fun e => h (by simp [e])
    have ih := index_first1 c t r a (fun e => h (by simp [e]))
    rw [List.cons_append]
    unfold Lib.index
    rw [if_neg (by simp [List.isPrefixOf, hx]), ih, if_neg (by simp), List.length_cons]
    omega
theorem cut_first (a r : List UInt8) (h : (13 : UInt8) ∉ a) : Lib.cut (a ++ [13, 10, 13, 10] ++ r) [13, 10, 13, 10] = (a, r, true) := by
  have hi := index_first1 13 [10, 13, 10] r a h
  unfold Lib.cut
  rw [List.append_assoc, hi, if_pos (by omega)]
  have e1 : (a ++ ([13, 10, 13, 10] ++ r)).take a.length = a := List.take_left' rfl
  have e2 : (a ++ ([13, 10, 13, 10] ++ r)).drop (a.length + 4) = r := by
    rw [← List.append_assoc, List.drop_left' (by simp)]
  simp only [Int.toNat_natCast]
  rw [e1]
  exact congrArg (fun z => (a, z, true)) e2
theorem cutT_len {D : List UInt8} {n : Int} {d : Int × Int} (hn : n = (D.length : Int)) (h : conB d.1 d.2 n = true) : (cutT D d).length = d.2.toNat - d.1.toNat := by
  obtain ⟨h0, h1, h2, h3⟩ := conB_in h
  unfold cutT
  rw [List.length_take, List.length_drop]
  omega
theorem conL_len2 {x y n : Int} (h : conB x y n = true) : (conL x y n).length ≤ 100 := by
  have := conL_len h
  rwa [mkS_size] at this
theorem part_len {B D : List UInt8} {n : Int} {d : Int × Int} (hn : n = (D.length : Int)) (hB : B.length ≤ 30) (h : conB d.1 d.2 n = true) : (part B D n d).length ≤ 100200 := by
  have h1 := cutT_len hn h
  have h2 := conL_len2 h
  have h3 := conB_in h
  unfold part headL labL
  simp only [List.length_append, List.length_cons, List.length_nil]
  omega
theorem parts_len {B D : List UInt8} {n : Int} (hn : n = (D.length : Int)) (hB : B.length ≤ 30) : ∀ l : List (Int × Int), okL n l → (l.flatMap (part B D n)).length ≤ 100200 * l.length
  | [], _ => by simp
  | d :: l, h => by
    have h1 := part_len hn hB (h d (by simp))
    have h2 := parts_len hn hB l (fun x hx => h x (by simp [hx]))
    rw [List.flatMap_cons, List.length_append, List.length_cons]
    omega
theorem bunL_len {B D : List UInt8} {n : Int} (hn : n = (D.length : Int)) (hB : B.length ≤ 30) {l : List (Int × Int)} (h : okL n l) (hl : l.length ≤ 20) : (bunL B D n l).length ≤ 2004100 := by
  have h1 := parts_len hn hB l h
  unfold bunL endL
  simp only [List.length_append, List.length_cons, List.length_nil]
  omega
end Spb
end Go.Proofs.YthhhlaoiampinaaDoor
