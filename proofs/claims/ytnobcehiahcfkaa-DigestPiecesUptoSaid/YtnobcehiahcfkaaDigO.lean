/- DigestKnown, DigestPieces: the walks. -/
import Derived.Test.YtnobcehiahcfkaaDigN
import Derived.Test.YtnobcehiahcfkaaJoin
import Derived.Test.YtnobcehiahcfkaaCkS
namespace Go.Proofs.Ytnobcehiahcfkaa
set_option maxRecDepth 20000
open Go.RowKit
set_option maxHeartbeats 4000000 in
theorem known_abc : mkS ((sl (mkS (digB (sl ⟨#[97, 98, 99]⟩)))).flatMap hexC) = ⟨#[53, 48, 56, 99, 53, 101, 56, 99, 51, 50, 55, 99, 49, 52, 101, 50, 101, 49, 97, 55, 50, 98, 97, 51, 52, 101, 101, 98, 52, 53, 50, 102, 51, 55, 52, 53, 56, 98, 50, 48, 57, 101, 100, 54, 51, 97, 50, 57, 52, 100, 57, 57, 57, 98, 52, 99, 56, 54, 54, 55, 53, 57, 56, 50]⟩ := by
  have h1 : sl ⟨#[97, 98, 99]⟩ = [97, 98, 99] := rfl
  rw [sl_mkS, digB, h1, absorb_end H0L 0 [97, 98, 99] (by decide)]
  have h2 : (finB H0L 0 [97, 98, 99]).flatMap hexC = [53, 48, 56, 99, 53, 101, 56, 99, 51, 50, 55, 99, 49, 52, 101, 50, 101, 49, 97, 55, 50, 98, 97, 51, 52, 101, 101, 98, 52, 53, 50, 102, 51, 55, 52, 53, 56, 98, 50, 48, 57, 101, 100, 54, 51, 97, 50, 57, 52, 100, 57, 57, 57, 98, 52, 99, 56, 54, 54, 55, 53, 57, 56, 50] := by decide +kernel
  rw [h2]
  rfl
set_option maxHeartbeats 4000000 in
theorem known_nil : mkS ((sl (mkS (digB (sl ⟨#[]⟩)))).flatMap hexC) = ⟨#[54, 57, 50, 49, 55, 97, 51, 48, 55, 57, 57, 48, 56, 48, 57, 52, 101, 49, 49, 49, 50, 49, 100, 48, 52, 50, 51, 53, 52, 97, 55, 99, 49, 102, 53, 53, 98, 54, 52, 56, 50, 99, 97, 49, 97, 53, 49, 101, 49, 98, 50, 53, 48, 100, 102, 100, 49, 101, 100, 48, 101, 101, 102, 57]⟩ := by
  have h1 : sl ⟨#[]⟩ = [] := rfl
  rw [sl_mkS, digB, h1, absorb_end H0L 0 [] (by decide)]
  have h2 : (finB H0L 0 []).flatMap hexC = [54, 57, 50, 49, 55, 97, 51, 48, 55, 57, 57, 48, 56, 48, 57, 52, 101, 49, 49, 49, 50, 49, 100, 48, 52, 50, 51, 53, 52, 97, 55, 99, 49, 102, 53, 53, 98, 54, 52, 56, 50, 99, 97, 49, 97, 53, 49, 101, 49, 98, 50, 53, 48, 100, 102, 100, 49, 101, 100, 48, 101, 101, 102, 57] := by decide +kernel
  rw [h2]
  rfl
theorem digestKnown_walk (w : World) : Calls Try.prog 9 #[] w fun e w' => e = .returned (.bool true) ∧ Below w.heap.size w w' := by
  go_enter Try.func9, Try.ntmps9
  go_wp2_with fail
  refine (digest_any _ _ (by decide)).mono ?_
  rintro e w1 ⟨rfl, b1⟩
  go_wp2_with fail
  refine (hex_any _ _ (by rw [mkS_size, digB_len]; decide)).mono ?_
  rintro e w2 ⟨rfl, b2⟩
  rw [known_abc]
  go_wp2_with fail
  refine (digest_any _ _ (by decide)).mono ?_
  rintro e w3 ⟨rfl, b3⟩
  go_wp2_with fail
  refine (hex_any _ _ (by rw [mkS_size, digB_len]; decide)).mono ?_
  rintro e w4 ⟨rfl, b4⟩
  rw [known_nil]
  have HB := Lib.hid (((b1.trans (b2.mono b1.size)).trans (b3.mono (Nat.le_trans b1.size b2.size))).trans (b4.mono (Nat.le_trans b1.size (Nat.le_trans b2.size b3.size))))
  go_wp2_with fail
  go_ret
  exact ⟨rfl, HB.out⟩
theorem sum_flat (l : List ByteArray) : ((l.map sl).flatten).length = (l.map (·.size)).sum := by
  induction l with
  | nil => rfl
  | cons x l ih => rw [List.map_cons, List.flatten_cons, List.length_append, ih, List.map_cons, List.sum_cons, sl_len]
end Go.Proofs.Ytnobcehiahcfkaa
