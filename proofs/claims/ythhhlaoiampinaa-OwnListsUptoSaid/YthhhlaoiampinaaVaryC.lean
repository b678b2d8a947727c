/- vary: what Match answers. -/
import Derived.Test.YthhhlaoiampinaaVaryB
namespace Go.Proofs.Ythhhlaoiampinaa
set_option maxRecDepth 20000
open Go.RowKit
namespace Vy
theorem any_same {xs L : List ByteArray} (h : ∀ x, x ∈ xs ↔ x ∈ L) (p : ByteArray → Bool) : xs.any p = L.any p := by
  rw [Bool.eq_iff_iff, List.any_eq_true, List.any_eq_true]
  constructor
  · rintro ⟨x, hx, hp⟩; exact ⟨x, (h x).1 hx, hp⟩
  · rintro ⟨x, hx, hp⟩; exact ⟨x, (h x).2 hx, hp⟩
set_option maxHeartbeats 3200000 in
theorem match_any (v0 v1 v2 : Value) (l a b : List Fld) (w : World) (h0 : LOk w v0 l) (h1 : LOk w v1 a) (h2 : LOk w v2 b) :
    Calls Try.prog 16 #[v0, v1, v2] w fun e w' => e = .returned (.tuple #[.bool (matF (txt l nVary) a b).1, .int .i64 (matF (txt l nVary) a b).2]) ∧ Below w.heap.size w w' := by
  have HN := Lib.hid (names_all v0 l w h0)
  have hM : Hid (matF (txt l nVary) a b = if (nmF (txt l nVary)).2.2 = 0 then (!((nmF (txt l nVary)).2.1 || (nmF (txt l nVary)).1.any (diff a b)), 0) else (false, (nmF (txt l nVary)).2.2)) := rfl
  have HS := Lib.hid (nmF_small (txt l nVary))
  have HA := Lib.hid (fun n w' (hb : Below w.heap.size w w') (hn : n.size ≤ 1000) => getL_any v1 a n w' (h1.below hb) (by omega))
  have HB := Lib.hid (fun n w' (hb : Below w.heap.size w w') (hn : n.size ≤ 1000) => getL_any v2 b n w' (h2.below hb) (by omega))
  have hcode := nmF_code (txt l nVary)
  clear h0 h1 h2
  generalize matF (txt l nVary) a b = M at *
  generalize nmF (txt l nVary) = R at *
  obtain ⟨L, st, c⟩ := R
  obtain ⟨m1, m2⟩ := M
  dsimp only at *
  go_enter Try.func16, Try.ntmps16
  go_wp2_with fail
  refine HN.out.mono ?_
  rintro e w1 ⟨⟨v, xs, rfl, hsl, -, hlen, hmem⟩, b1⟩
  have HSl := Lib.hid hsl
  have HX : Hid (∀ p, xs.any p = L.any p) := fun p => any_same hmem p
  have HZ : Hid (∀ x ∈ xs, x.size ≤ 1000) := fun x hx => HS.out.2 x ((hmem x).1 hx)
  obtain ⟨A, cp, rfl, -⟩ := hsl.form
  clear hsl hmem HN
  by_cases hc : c = 0
  · subst hc
    have hM2 : Hid (m1 = !(st || xs.any (diff a b)) ∧ m2 = 0) := by
      have := hM.out
      rw [if_pos rfl, ← HX.out] at this
      injection this with e1 e2
      exact ⟨e1, e2⟩
    clear hM hcode HX HS
    go_wp2_with fail
    have H2 := Lib.hid (fun hn => HSl.out.texts hn)
    go_loopw [9, 28] (fun s i wr => ∃ k : Nat, k ≤ xs.length ∧ i = .int .i64 k ∧ s = .bool (st || (xs.take k).any (diff a b)) ∧ Below w1.heap.size w1 wr) (fun _ i _ => xs.length - (intOf i).toNat)
    case atStart => exact ⟨0, by omega, rfl, by simp, Below.refl _ _⟩
    case round =>
      obtain ⟨k, hk, rfl, rfl, hbel⟩ := hrel
      have Br := belT b1 hbel
      by_cases hlt : k < xs.length
      · obtain ⟨bb, off, c', he, _, hbb, hcell⟩ := H2.out (by omega)
        obtain ⟨rfl, rfl⟩ : A = some ⟨bb, off, none⟩ ∧ cp = c' := by injection he with h1 h2 h3; exact ⟨h1, h3⟩
        have c0 := (hbel.cell (p := ⟨bb, off + k, none⟩) hbb).trans (hcell k hlt)
        have hx := HZ.out _ (List.getElem_mem hlt)
        have HT : Hid ((st || (xs.take (k + 1)).any (diff a b)) = ((st || (xs.take k).any (diff a b)) || diff a b xs[k])) := by
          show _ = _; rw [List.take_add_one, List.getElem?_eq_getElem hlt, List.any_append]; simp [Bool.or_assoc]
        clear hcell he
        generalize xs[k] = x at *
        generalize hsk : (st || (xs.take k).any (diff a b)) = sk at *
        have HD : Hid (diff a b x = (decide (isR a x ≠ isR b x) || !((txt a x).toList == (txt b x).toList))) := by
          show _ = _; unfold diff; rw [toList_inj]; congr 1; simp
        have HA2 := Lib.hid (fun w' hb => HA.out x w' hb hx)
        have HB2 := Lib.hid (fun w' hb => HB.out x w' hb hx)
        generalize diff a b x = D at *
        generalize isR a x = p1 at *
        generalize isR b x = p2 at *
        generalize txt a x = t1 at *
        generalize txt b x = t2 at *
        generalize hcmp : (t1.toList == t2.toList) = z at *
        go_wp2_with fail
        refine (HA2.out _ Br).mono ?_
        rintro e w2 ⟨rfl, b2⟩
        have Br2 := belT Br b2
        go_wp2_with fail
        refine (HB2.out _ Br2).mono ?_
        rintro e w3 ⟨rfl, b3⟩
        have hB3 := belT (belT hbel b2) b3
        clear HA2 HB2 hsk
        cases sk
        · cases p1 <;> cases p2 <;> cases z
          all_goals
            go_wp2_with fail
            go_roundw
            case rel => exact ⟨k + 1, by omega, by go_num, by rw [HT.out, HD.out]; rfl, hB3⟩
            case measure => simp [intOf]; omega
        · go_wp2_with fail
          go_roundw
          case rel => exact ⟨k + 1, by omega, by go_num, by rw [HT.out]; rfl, hB3⟩
          case measure => simp [intOf]; omega
      · obtain rfl : k = xs.length := by omega
        have hE : xs.take xs.length = xs := List.take_of_length_le (Nat.le_refl _)
        rw [hE]
        obtain ⟨hm1, rfl⟩ := hM2.out
        clear hM2
        generalize (st || xs.any (diff a b)) = q at *
        cases q
        · obtain rfl : m1 = true := hm1
          go_wp2_with fail
          go_ret2
          exact ⟨rfl, Br⟩
        · obtain rfl : m1 = false := hm1
          go_wp2_with fail
          go_ret2
          exact ⟨rfl, Br⟩
  · have hM2 : Hid (m1 = false ∧ m2 = c) := by
      have := hM.out
      rw [if_neg hc] at this
      injection this with e1 e2
      exact ⟨e1, e2⟩
    obtain ⟨rfl, rfl⟩ := hM2.out
    have hne : (m2 != 0) = true := by simpa using hc
    go_wp2_with fail
    go_ret2
    exact ⟨rfl, b1⟩
end Vy
end Go.Proofs.Ythhhlaoiampinaa
