/- MsgPipe: the walk. -/
import Derived.Test.YtoalfjkbgeiggaaGreatDoorZMsgS
namespace Go.Proofs.YtoalfjkbgeiggaaGreatDoor
set_option maxRecDepth 20000
open Go.RowKit
open Ck Ms Bd Ln
theorem readR_nil : readR [] = .error 8 := by
  unfold readR
  rw [Ln.parse_empty, if_pos (by simp)]
theorem readNil_any (w : World) (hm : HasMax w) (he : HasErr w) :
    Calls Tryz.prog 10 #[.string ⟨#[]⟩] w fun e w' => e = .returned (.tuple #[vRq ⟨#[]⟩ ⟨#[]⟩ (.slice none 0 0) ⟨#[]⟩, .int .i64 0, .int .i64 8]) ∧ Below w.heap.size w w' := by
  have h := readReq_any ⟨#[]⟩ w (by decide) hm he
  rw [show sl ⟨#[]⟩ = [] from rfl, readR_nil] at h
  refine h.mono ?_
  rintro e w' ⟨⟨rfl, -⟩, hb⟩
  exact ⟨rfl, hb⟩
theorem parseF_len : ∀ (n k : Nat) {s r : List UInt8} {l : List Fp}, parseF n k s = .ok (l, r) → k ≤ 30 → l.length ≤ 30 := fun n k s r l h hk => by
  have := (parse_good _ _ _ _ _ hk h).2.1
  omega
theorem readR_fields {s : List UInt8} {m t : ByteArray} {l : List Fp} {b : List UInt8} {n : Nat} (h : readR s = .ok (m, t, l, b, n)) : l.length ≤ 30 := by
  unfold readR at h
  split at h
  · cases h
  · split at h
    · cases h
    · rename_i l' b' n' hf
      injection h with h
      injection h with _ h; injection h with _ h; injection h with h3 h
      subst h3
      unfold readF at hf
      split at hf
      · cases hf
      · rename_i l r hp
        have hl := parseF_len _ _ hp (by omega)
        split at hf
        · cases hf
        · split at hf
          · split at hf
            · cases hf
            · injection hf with hf; injection hf with hf _; rw [← hf]; exact hl
          · split at hf
            · split at hf
              · cases hf
              · injection hf with hf; injection hf with hf _; rw [← hf]; exact hl
            · split at hf
              · split at hf
                · cases hf
                · cases hf
                · injection hf with hf; injection hf with hf _; rw [← hf]; exact hl
              · injection hf with hf; injection hf with hf _; rw [← hf]; exact hl
namespace Ms
/-- What ReadRequest answers, all in one. -/
def resQ : Except Int (ByteArray × ByteArray × List Fp × List UInt8 × Nat) → ByteArray × ByteArray × List Fp × ByteArray × Int × Int
  | .error c => (⟨#[]⟩, ⟨#[]⟩, [], ⟨#[]⟩, 0, c)
  | .ok (m, t, l, b, n) => (m, t, l, mkS b, (n : Int), 0)
theorem reqAns_all {n0 : Nat} {a : Except Int (ByteArray × ByteArray × List Fp × List UInt8 × Nat)} {e : Ending} {w' : World} (h : ReqAns n0 a e w') :
    ∃ v, e = .returned (.tuple #[.agg #[.string (resQ a).1, .string (resQ a).2.1, v, .string (resQ a).2.2.2.1], .int .i64 (resQ a).2.2.2.2.1, .int .i64 (resQ a).2.2.2.2.2]) ∧ SlR w' e_ss v (resQ a).2.2.1 := by
  cases a with
  | error c => exact ⟨_, h.1, SlR.nil _ _⟩
  | ok x =>
    obtain ⟨m, t, l, b, n⟩ := x
    obtain ⟨v, he, ho⟩ := h
    exact ⟨v, he, SlR.of_owns ho⟩
end Ms
theorem readAll_any (s : ByteArray) (w : World) (hs : s.size < 4294967281) (hm : HasMax w) (he : HasErr w) (m t : ByteArray) (l : List Fp) (b : ByteArray) (n c : Int) (h : resQ (readR (sl s)) = (m, t, l, b, n, c)) :
    Calls Tryz.prog 10 #[.string s] w fun e w' => (∃ v, e = .returned (.tuple #[.agg #[.string m, .string t, v, .string b], .int .i64 n, .int .i64 c]) ∧ SlR w' e_ss v l) ∧ Below w.heap.size w w' := by
  refine (readReq_any s w hs hm he).mono ?_
  rintro e w' ⟨ha, hb⟩
  have := reqAns_all ha
  rw [h] at this
  exact ⟨this, hb⟩
theorem readNil2_any (w : World) (hm : HasMax w) (he : HasErr w) :
    Calls Tryz.prog 10 #[.string ⟨#[]⟩] w fun e w' => e = .returned (.tuple #[.agg #[.string ⟨#[]⟩, .string ⟨#[]⟩, .slice none 0 0, .string ⟨#[]⟩], .int .i64 0, .int .i64 8]) ∧ Below w.heap.size w w' := readNil_any w hm he
set_option maxHeartbeats 4000000 in
theorem msgPipe_walk (s rest : ByteArray) (w : World) (hs : s.size ≤ 1048576) (hr : rest.size ≤ 1048576) (hm : HasMax w) (he : HasErr w) :
    Calls Tryz.prog 7 #[.string s, .string rest] w fun e w' => e = .returned (.bool true) ∧ Below w.heap.size w w' := by
  obtain ⟨A, hA⟩ : ∃ A, resQ (readR (sl s)) = A := ⟨_, rfl⟩
  obtain ⟨B, hB⟩ : ∃ B, resQ (readR (sl s ++ sl rest)) = B := ⟨_, rfl⟩
  have hmore := readR_more (sl s) (sl rest)
  have hkey : (A.2.2.2.2.2 = 8 ∧ A.2.2.2.2.1 = 0) ∨ (A.2.2.2.2.2 ≠ 8 ∧ B = A ∧ A.2.2.1.length ≤ 30) := by
    cases hq : readR (sl s) with
    | error c =>
      rw [hq] at hmore hA
      dsimp only at hmore
      subst hA
      by_cases h8 : c = 8
      · exact .inl ⟨h8, rfl⟩
      · refine .inr ⟨h8, ?_, by simp [resQ]⟩
        rw [← hB, hmore h8]
    | ok x =>
      rw [hq] at hmore hA
      dsimp only at hmore
      refine .inr ⟨?_, by rw [← hB, hmore, hA], ?_⟩
      · subst hA; obtain ⟨m, t, l, b, n⟩ := x; show (0 : Int) ≠ 8; omega
      · subst hA
        obtain ⟨m, t, l, b, n⟩ := x
        exact readR_fields hq
  obtain ⟨m, t, l, b, n, c⟩ := A
  obtain ⟨m2, t2, l2, b2, n2, c2⟩ := B
  have HQ := Lib.hid (readAll_any s w (by omega) hm he m t l b n c hA)
  have HN := Lib.hid (fun w' (hb : Below w.heap.size w w') => readNil2_any w' (hm.below hb) (he.below hb))
  have HQ2 := Lib.hid (fun w' (hb : Below w.heap.size w w') => readAll_any (s ++ rest) w' (by rw [ByteArray.size_append]; omega) (hm.below hb) (he.below hb) m2 t2 l2 b2 n2 c2 (by rw [sl_append]; exact hB))
  have hz1 : s.size + rest.size ≤ 9223372036854775807 := by omega
  clear hm he hA hB hmore
  dsimp only at hkey
  go_enter Tryz.func7, Tryz.ntmps7
  go_wp2_with fail
  refine HQ.out.mono ?_
  rintro e w1 ⟨⟨v, rfl, hv⟩, g1⟩
  have hX1 := Blk.new w1 24 #[.string m, .string t, v, .string b]
  have bX1 := g1.alloc g1.size (.cells #[.string m, .string t, v, .string b] 24)
  have hv1 := hv.alloc (.cells #[.string m, .string t, v, .string b] 24)
  obtain ⟨A1, cc1, rfl, -⟩ := hv.form
  go_wp2_with fail
  generalize hWX : w1.alloc (.cells #[.string m, .string t, .slice A1 l.length cc1, .string b] 24) = x1 at *
  refine (HN.out _ bX1).mono ?_
  rintro e w2 ⟨rfl, g2⟩
  have hX2 := Blk.below hX1 g2 hX1.lt
  have hv2 := hv1.below g2
  have bX2 := bX1.trans (g2.mono bX1.size)
  have hX3 := hX2.alloc (.cells #[.string ⟨#[]⟩, .string ⟨#[]⟩, .slice none 0 0, .string ⟨#[]⟩] 24)
  have hv3 := hv2.alloc (.cells #[.string ⟨#[]⟩, .string ⟨#[]⟩, .slice none 0 0, .string ⟨#[]⟩] 24)
  have bX3 := bX2.alloc bX2.size (.cells #[.string ⟨#[]⟩, .string ⟨#[]⟩, .slice none 0 0, .string ⟨#[]⟩] 24)
  go_wp2_with fail
  generalize hWY : w2.alloc (.cells #[.string ⟨#[]⟩, .string ⟨#[]⟩, .slice none 0 0, .string ⟨#[]⟩] 24) = x3 at *
  refine (HQ2.out _ bX3).mono ?_
  rintro e w4 ⟨⟨v4, rfl, hv4⟩, g4⟩
  have hX4 := Blk.below hX3 g4 hX3.lt
  have hu4 := hv3.below g4
  have bX4 := bX3.trans (g4.mono bX3.size)
  have hlt4 := hX4.lt
  rcases hkey with ⟨rfl, rfl⟩ | ⟨h8, heq, h30⟩
  · obtain ⟨A4, cc4, rfl, -⟩ := hv4.form
    have bX5 := bX4.alloc bX4.size (.cells #[.string m2, .string t2, .slice A4 l2.length cc4, .string b2] 24)
    go_wp2_with fail
    go_ret
    exact ⟨rfl, bX5⟩
  · simp only [Prod.mk.injEq] at heq
    obtain ⟨rfl, rfl, rfl, rfl, rfl, rfl⟩ := heq
    have h8' : (c2 == 8) = false := by rw [beq_eq_false_iff_ne]; exact h8
    obtain ⟨A4, cc4, rfl, -⟩ := hv4.form
    have hX5 := hX4.alloc (.cells #[.string m2, .string t2, .slice A4 l2.length cc4, .string b2] 24)
    have hY5 := Blk.new w4 24 #[.string m2, .string t2, .slice A4 l2.length cc4, .string b2]
    have hu5 := hu4.alloc (.cells #[.string m2, .string t2, .slice A4 l2.length cc4, .string b2] 24)
    have hv5 := hv4.alloc (.cells #[.string m2, .string t2, .slice A4 l2.length cc4, .string b2] 24)
    have bX5 := bX4.alloc bX4.size (.cells #[.string m2, .string t2, .slice A4 l2.length cc4, .string b2] 24)
    have d0 := hX5.cell 0
    have d1 := hX5.cell 1
    have d2 := hX5.cell 2
    have d3 := hX5.cell 3
    go_wp2_with fail
    refine (sameReq_true m2 t2 b2 _ _ l2 _ hu5 hv5 (by omega)).mono ?_
    rintro e w6 ⟨rfl, g6⟩
    go_wp2_with fail
    go_ret
    exact ⟨rfl, bX5.trans (g6.mono bX5.size)⟩
end Go.Proofs.YtoalfjkbgeiggaaGreatDoor
