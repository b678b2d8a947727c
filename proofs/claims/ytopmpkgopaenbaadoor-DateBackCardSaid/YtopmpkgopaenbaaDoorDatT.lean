/- DateBack: the law's walk. -/
import Derived.Test.YtopmpkgopaenbaaDoorDatS
namespace Go.Proofs.YtopmpkgopaenbaaDoor
set_option maxRecDepth 20000
open Go.RowKit
abbrev HasMax := HasMaxL
theorem string_ne2 (a b : ByteArray) : (!(a.toList == b.toList)) = !decide (a = b) := by
  rw [ba_toList, ba_toList]
  congr 1
  rw [Bool.eq_iff_iff]
  simp only [beq_iff_eq, decide_eq_true_eq]
  exact ⟨fun h => sl_inj h, fun h => by rw [h]⟩
set_option maxHeartbeats 1600000 in
/-- What is read of s is printed as s: the walk goes on either way. -/
theorem dateBack_core (n : Int) (s : ByteArray) (w : World) (hn : Wide n) (hs : s.size ≤ 140737488351232) (hm : HasMaxL w) (hp : HasP10 w) :
    Calls Tryd.prog 5 #[.int .i64 n, .string s] w fun e w' => e = .returned (.bool true) ∧ Below w.heap.size w w' := by
  have HPA := Lib.hid (fun (x : ByteArray) w (hx : x.size ≤ 140737488351232) hp hm => dateParse_any x w hx hp hm)
  have HPR := Lib.hid (fun (k : Nat) w (hk : k ≤ 253402300799) hp => datePrint_ok k w hk hp)
  by_cases hr : 0 ≤ n ∧ n ≤ 253402300799
  · obtain ⟨k, rfl⟩ : ∃ k : Nat, n = (k : Int) := ⟨n.toNat, by omega⟩
    have hk : k ≤ 253402300799 := by omega
    have hz : (mkS (Dt.printD k)).size = 29 := by rw [mkS_size, printD_len' k hk]
    have HQ : Hid (∀ m : Nat, m ≤ 253402300799 → mkS (Dt.printD k) = mkS (Dt.printD m) → m = k) := fun m hm h => by
      have := congrArg sl h
      rw [sl_mkS, sl_mkS] at this
      exact (printD_inj hk hm this).symm
    have H1 := Lib.hid (fun w hp => HPR.out k w hk hp)
    have HR : Hid (k ≤ 253402300799) := hk
    have HX : Hid (∃ m : Nat, m ≤ 253402300799 ∧ mkS (Dt.printD k) = mkS (Dt.printD m)) := ⟨k, hk, rfl⟩
    generalize mkS (Dt.printD k) = T at *
    clear hr hk hn
    go_enter Tryd.func5, Tryd.ntmps5
    go_wp2_with fail
    refine (H1.out _ hp).mono ?_
    rintro e w1 ⟨rfl, b1⟩
    have hp1 := hp.below rfl b1
    have hm1 := hm.below rfl b1
    go_wp2_with fail
    refine (HPA.out s _ hs hp1 hm1).mono ?_
    rintro e w2 ⟨hans, b2⟩
    have hp2 := hp1.below rfl b2
    have hm2 := hm1.below rfl b2
    have HFIN : Hid (∀ w, HasP10 w → HasMaxL w → Calls Tryd.prog 8 #[.string T] w fun e w' => e = .returned (.tuple #[.int .i64 k, .int .i64 0]) ∧ Below w.heap.size w w') := by
      intro w hp hm
      refine (HPA.out T w (by omega) hp hm).mono fun e w' ⟨he, hb⟩ => ⟨?_, hb⟩
      rcases he with ⟨m, h1, h2, rfl⟩ | ⟨hno, -⟩
      · rw [HQ.out m h1 h2]
      · obtain ⟨m, h1, h2⟩ := HX.out
        exact absurd h2 (hno m h1)
    rcases hans with ⟨m, h1, h2, rfl⟩ | ⟨-, rfl⟩
    · have H3 := Lib.hid (fun w hp => HPR.out m w h1 hp)
      rw [← h2] at H3
      have hself : (!(s.toList == s.toList)) = false := by simp
      clear h1 h2
      go_wp2_with fail
      refine (H3.out _ hp2).mono ?_
      rintro e w3 ⟨rfl, b3⟩
      go_wp2_with fail
      refine (HFIN.out _ (hp2.below rfl b3) (hm2.below rfl b3)).mono ?_
      rintro e w4 ⟨rfl, b4⟩
      go_wp2_with fail
      go_ret
      exact ⟨rfl, belT (belT (belT b1 b2) b3) b4⟩
    · go_wp2_with fail
      refine (HFIN.out _ hp2 hm2).mono ?_
      rintro e w4 ⟨rfl, b4⟩
      go_wp2_with fail
      go_ret
      exact ⟨rfl, belT (belT b1 b2) b4⟩
  · have H1 := Lib.hid (fun w => datePrint_no n w (by omega))
    have hd : (decide (n < 0) || decide (253402300799 < n)) = true := by
      rw [Bool.or_eq_true, decide_eq_true_eq, decide_eq_true_eq]; omega
    have HD := Lib.hid hd
    go_enter Tryd.func5, Tryd.ntmps5
    go_wp2_with fail
    refine (H1.out _).mono ?_
    rintro e w' ⟨rfl, rfl⟩
    go_wp2_with fail
    refine (HPA.out s _ hs hp hm).mono ?_
    rintro e w2 ⟨hans, b2⟩
    rcases hans with ⟨m, h1, h2, rfl⟩ | ⟨-, rfl⟩
    · have H3 := Lib.hid (fun w hp => HPR.out m w h1 hp)
      rw [← h2] at H3
      have hself : (!(s.toList == s.toList)) = false := by simp
      clear h1 h2
      go_wp2_with fail
      refine (H3.out _ (hp.below rfl b2)).mono ?_
      rintro e w3 ⟨rfl, b3⟩
      by_cases h0 : n < 0
      · go_wp2_with fail
        go_ret
        exact ⟨rfl, belT b2 b3⟩
      · have h1 : 253402300799 < n := by omega
        go_wp2_with fail
        go_ret
        exact ⟨rfl, belT b2 b3⟩
    · by_cases h0 : n < 0
      · go_wp2_with fail
        go_ret
        exact ⟨rfl, b2⟩
      · have h1 : 253402300799 < n := by omega
        go_wp2_with fail
        go_ret
        exact ⟨rfl, b2⟩
theorem dateBack_walk (n : Int) (s : ByteArray) (w : World) (hn : (Lit.int .i64 n).wf = true) (hs : s.size ≤ 140737488351232) (hm : HasMax w) (hp : HasP10 w) :
    Calls Tryd.prog 5 #[.int .i64 n, .string s] w fun e w' => e = .returned (.bool true) ∧ Below w.heap.size w w' := dateBack_core n s w (wide_of hn) hs hm hp
end Go.Proofs.YtopmpkgopaenbaaDoor
