/- SpanContentBack: the walk. -/
import Derived.Test.YthhhlaoiampinaaDoorSpcC
namespace Go.Proofs.YthhhlaoiampinaaDoor
open Go.RowKit
namespace Spc
theorem conL_len {x y n : Int} (h : conB x y n = true) : (mkS (conL x y n)).size ≤ 100 := by
  obtain ⟨n1, n2, n3⟩ := conB_num h
  have l1 := itoa_len n1
  have l2 := itoa_len n2
  have l3 := itoa_len n3
  rw [mkS_size]
  unfold conL
  simp only [List.length_append, List.length_cons, List.length_nil]
  omega
theorem parseC_empty (w : World) (he : Bd.HasErr w) :
    Calls Tryd.prog 22 #[.string ⟨#[]⟩] w fun e w' => e = .returned (.tuple #[.agg #[.int .i64 0, .int .i64 0], .int .i64 0, .int .i64 3]) ∧ Below w.heap.size w w' := by
  refine (parseC_any ⟨#[]⟩ w (by decide) he).mono fun e w' ⟨⟨x, y, n, er, h, hp⟩, hb⟩ => ⟨?_, hb⟩
  rcases hp with ⟨_, _, h1⟩ | ⟨rfl, rfl, rfl, rfl, _⟩
  · have := congrArg List.length h1
    unfold conL at this
    rw [List.length_append] at this
    simp at this
    have h0 : (sl ⟨#[]⟩).length = 0 := rfl
    omega
  · exact h
theorem parseC_con {x y n : Int} (h : conB x y n = true) (w : World) (he : Bd.HasErr w) :
    Calls Tryd.prog 22 #[.string (mkS (conL x y n))] w fun e w' => e = .returned (.tuple #[.agg #[.int .i64 x, .int .i64 y], .int .i64 n, .int .i64 0]) ∧ Below w.heap.size w w' := by
  refine (parseC_any (mkS (conL x y n)) w (by have := conL_len h; omega) he).mono fun e w' ⟨⟨x', y', n', er, h0, hp⟩, hb⟩ => ⟨?_, hb⟩
  rw [sl_mkS] at hp
  rcases hp with ⟨rfl, h1, h2⟩ | ⟨_, _, _, _, h2⟩
  · obtain ⟨rfl, rfl, rfl⟩ := conL_inj h h1 h2
    exact h0
  · exact absurd rfl (h2 x y n h)
/-- What ParseContent answers: a span whose text this is, or the error. -/
theorem parseC_two (s : ByteArray) (w : World) (hs : s.size ≤ 140737488351232) (he : Bd.HasErr w) :
    Calls Tryd.prog 22 #[.string s] w fun e w' => ((∃ x y n, e = .returned (.tuple #[.agg #[.int .i64 x, .int .i64 y], .int .i64 n, .int .i64 0]) ∧ Hid (conB x y n = true ∧ mkS (conL x y n) = s)) ∨ e = .returned (.tuple #[.agg #[.int .i64 0, .int .i64 0], .int .i64 0, .int .i64 3])) ∧ Below w.heap.size w w' := by
  refine (parseC_any s w hs he).mono fun e w' ⟨⟨x, y, n, er, h, hp⟩, hb⟩ => ⟨?_, hb⟩
  rcases hp with ⟨rfl, h1, h2⟩ | ⟨rfl, rfl, rfl, rfl, _⟩
  · exact .inl ⟨x, y, n, h, h1, sl_inj (by rw [sl_mkS, h2])⟩
  · exact .inr h
end Spc
end Go.Proofs.YthhhlaoiampinaaDoor
