/- A row on which something was done. -/
import Derived.Test.YtnobcehiahcfkaaRowK
import Derived.Test.YtnobcehiahcfkaaRest
import Derived.Test.YtnobcehiahcfkaaOpenS
import Derived.Test.YtnobcehiahcfkaaEqStr
import Derived.Deep.MidRow
import Derived.Deep.WholeRow
namespace Go.Proofs.Ytnobcehiahcfkaa
set_option maxRecDepth 20000
open Go.RowKit Go.Shelf
theorem flat_get {α : Type} {en : α → List Value} {size : Nat} (hen : ∀ x, (en x).length = size) : ∀ (xs : List α) (k j : Nat) (hk : k < xs.length), j < size → (xs.flatMap en)[k * size + j]? = (en xs[k])[j]?
  | [], k, j, hk, _ => by simp at hk
  | x :: xs, 0, j, _, hj => by
    rw [List.flatMap_cons, Nat.zero_mul, Nat.zero_add, List.getElem?_append_left (by rw [hen]; exact hj)]; rfl
  | x :: xs, k + 1, j, hk, hj => by
    rw [List.flatMap_cons, List.getElem?_append_right (by rw [hen, Nat.succ_mul]; omega), hen, Nat.succ_mul]
    have := flat_get hen xs k j (by simpa using hk) hj
    rw [show k * size + size + j - size = k * size + j by omega, this]
    rfl
theorem SlR.rowN {α : Type} {w : World} {en : α → List Value} {size : Nat} {v : Value} {xs : List α} (hen : ∀ x, (en x).length = size) (h : SlR w en v xs) (hn : 0 < xs.length) :
    ∃ b off c, v = .slice (some ⟨b, off, none⟩) xs.length c ∧ xs.length ≤ c ∧ b < w.heap.size ∧ ∀ k (hk : k < xs.length) j u, (en xs[k])[j]? = some u → w.cell? ⟨b, off + (k * size + j), none⟩ = some u := by
  obtain ⟨A, c, hv, hc, hx⟩ := h
  obtain ⟨b, off, rfl, hb, hcell⟩ := hx hn
  refine ⟨b, off, c, hv, hc, hb, fun k hk j u hu => hcell _ _ ?_⟩
  rw [flat_get hen xs k j hk]
  · exact hu
  · have := (List.getElem?_eq_some_iff.1 hu).1
    rwa [hen] at this
def stZ : Array Value := #[.int .i64 0, .int .i64 0, .int .i64 0, .string { data := #[] }, .string { data := #[] }, .slice none 0 0, .string { data := #[] }, .string { data := #[] }, .slice none 0 0, .string { data := #[] }, .string { data := #[] }, .string { data := #[] }, .slice none 0 0, .string { data := #[] }, .int .i64 0, .string { data := #[] }, .slice none 0 0, .string { data := #[] }, .int .i64 0, .int .i64 0, .int .i64 0, .slice none 0 0]
theorem usedR_any (n0 p c mb : Nat) (room : Int) (ns : List Nd) (w : World) (h : RowS w n0 p room c mb ns) :
    Calls Try.prog 25 #[ptr p] w fun e w' => e = .returned (.int .i64 (usedOf ns)) ∧ w = w' := by
  have p1 := h.blk.cell 1
  clear h
  go_enter Try.func25, Try.ntmps25
  go_wp2_with fail
  go_ret
  exact ⟨rfl, rfl⟩
theorem of_any (x : Stp) (n : Int) (w : World) (hx : Wide x.k) (hn : 0 < n ∧ n ≤ 4611686018427387904) :
    Calls Try.prog 41 #[.agg (e_st x).toArray, .int .i64 n] w fun e w' => e = .returned (.int .i64 (x.k % n)) ∧ Below w.heap.size w w' := by
  obtain ⟨xk, xa, xb, xs, xt, og, ou, oi⟩ := x
  have hxk : Wide xk := hx
  dsimp only [e_st]
  go_enter Try.func41, Try.ntmps41
  go_wp2_with fail
  refine (rest_any xk n _ hxk hn).mono ?_
  rintro e w1 ⟨rfl, rfl⟩
  go_wp2_with fail
  go_ret
  exact ⟨rfl, (Below.refl _ _).alloc (Nat.le_refl _) _⟩
theorem copyStr_any (v : Value) (l : List ByteArray) (w : World) (h : SlR w es v l) (hl : l.length ≤ 1048576) :
    Calls Try.prog 28 #[v] w fun e w' => (∃ u, e = .returned u ∧ Owns w' w.heap.size 9 1 es u l) ∧ Below w.heap.size w w' := by
  obtain ⟨i0, hi, hi0, hi1, hi2⟩ := info_parts stringInfo
  go_enter Try.func28, Try.ntmps28
  go_wp2_with (at_builtin; go_must (refine wpList_append_slr rfl (.const (.slice none 0 0)) (.tmp 3) _ rfl w.heap.size 9 (.string ByteArray.empty) 1 16 es Try.underlying24 stringInfo rfl (by decide) (fun _ => rfl) _ [] rfl (Owns.nil w w.heap.size 9 1 es) _ l rfl h (es_one l) (by simp [maxLen]; omega) (by simp; omega) (by simp) ?_); intro v' w2 hown' hgrow)
  go_ret
  exact ⟨⟨_, rfl, hown'⟩, (Below.refl _ _).grown hgrow (Nat.le_refl _) (fun k hk => by have hk' : (none : Option Nat) = some k := hk; cases hk')⟩
/-- Any Touch. -/
theorem touch_all (n0 p c mb : Nat) (room : Int) (ns : List Nd) (k : ByteArray) (w : World) (h : RowS w n0 p room c mb ns) (hks : k.size ≤ maxLen) :
    Calls Try.prog 29 #[ptr p, .string k] w fun e w' => (∃ q, e = .returned q) ∧ ∃ ns', RowS w' n0 p room c mb ns' ∧ RF RY n0 w w' := by
  rcases find_split ns k with hk | ⟨l, b, s, r, rfl⟩
  · refine (touch_none n0 p c mb room ns k w h hks hk).mono ?_
    rintro e w' ⟨rfl, rfl⟩
    exact ⟨⟨_, rfl⟩, ns, h, RF.refl _ _ _⟩
  · refine (touch_some n0 p c mb b room l r k s w h).mono ?_
    rintro e w' ⟨rfl, ⟨b', h1⟩, h2⟩
    exact ⟨⟨_, rfl⟩, _, h1, h2⟩
/-- Any Put. -/
theorem putR_all (n0 p c mb : Nat) (room : Int) (ns : List Nd) (k : ByteArray) (s : Int) (w : World) (h : RowS w n0 p room c mb ns) (hks : k.size ≤ maxLen) :
    Calls Try.prog 27 #[ptr p, .string k, .int .i64 s] w fun e w' => (∃ q, e = .returned q) ∧ ∃ ns', RowS w' n0 p room c mb ns' ∧ RF RY n0 w w' := by
  by_cases h1 : s < 1
  · refine (putR_bad n0 p c mb room ns k s w h h1).mono ?_
    rintro e w' ⟨rfl, hb⟩
    exact ⟨⟨_, rfl⟩, ns, h.below hb, RF.of_below hb h.n0w⟩
  · by_cases h2 : room < s
    · refine (putR_full n0 p c mb room ns k s w h (by omega) h2).mono ?_
      rintro e w' ⟨rfl, hb⟩
      exact ⟨⟨_, rfl⟩, ns, h.below hb, RF.of_below hb h.n0w⟩
    · refine (putR_ok n0 p c mb room ns k s w h (by omega) (by omega) hks).mono ?_
      rintro e w' ⟨v, b, gone, left, rfl, _, _, h3, h4⟩
      exact ⟨⟨_, rfl⟩, _, h3, h4⟩
set_option maxHeartbeats 4000000 in
theorem rowed_any (room : Int) (v : Value) (xs : List Stp) (w : World) (h1 : 1 ≤ room) (h2 : room ≤ 1000000) (h : SlR w e_st v xs) (hl : xs.length ≤ maxLen) (hx : ∀ x ∈ xs, Wide x.k ∧ Wide x.a ∧ Wide x.b ∧ x.s.size ≤ maxLen ∧ x.t.size ≤ maxLen) :
    Calls Try.prog 24 #[.int .i64 room, v] w fun e w' => ∃ p c mb ns, e = .returned (ptr p) ∧ RowS w' w.heap.size p room c mb ns ∧ Below w.heap.size w w' := by
  have HV := Lib.hid (fun hn => h.rowN (size := 22) (fun _ => rfl) hn)
  have HX := Lib.hid hx
  obtain ⟨A, cp, rfl, hc⟩ := h.form
  have hl' : xs.length ≤ 9223372036854775807 := hl
  clear h hx hl
  go_enter Try.func24, Try.ntmps24
  go_wp2_with fail
  refine (newRow_any room _ h1 h2).mono ?_
  rintro e w1 ⟨p, c, mb, rfl, hr1, b1⟩
  go_wp2_with fail
  refine (putR_bad _ p c mb room [] _ 0 _ hr1 (by decide)).mono ?_
  rintro e w2 ⟨rfl, g2⟩
  have hr2 := hr1.below g2
  have b2 := b1.trans (g2.mono b1.size)
  have HR := Lib.hid hr2
  clear hr1 hr2 b1 g2
  go_wp2_with fail
  go_loopw [31] (fun iv wr => ∃ (k : Nat), iv = .int .i64 (k : Int) ∧ k ≤ xs.length ∧ (∃ ns, RowS wr w.heap.size p room c mb ns) ∧ Below w.heap.size w wr) (fun iv _ => xs.length - (intOf iv).toNat)
  case atStart => exact ⟨0, rfl, Nat.zero_le _, ⟨_, HR.out⟩, b2⟩
  case round =>
    obtain ⟨k, rfl, hk, ⟨ns, hrs⟩, hbel⟩ := hrel
    by_cases hlt : k < xs.length
    · obtain ⟨bb, off, c3, hv2, hc3, hbb, hcell⟩ := HV.out (by omega)
      injection hv2 with g1 g2 g3
      subst g1 g3
      have hC : wr.rangeAt bb (off + k * 22) (e_st xs[k]) := fun j v hv => (hbel.cell (p := ⟨bb, off + (k * 22) + j, none⟩) hbb).trans (by rw [Nat.add_assoc]; exact hcell k hlt j v hv)
      have hxk := HX.out xs[k] (List.getElem_mem hlt)
      clear hcell g2
      generalize xs[k] = x at *
      obtain ⟨hx1, hx2, hx3, hx4, hx5⟩ := hxk
      have hO := Lib.hid (fun (W : World) => of_any x 4 W hx1 (by decide))
      have hB := Blk.new wr 70 (e_st x).toArray
      have hr5 := hrs.alloc (.cells (e_st x).toArray 70)
      have hb5 := hbel.alloc hbel.size (.cells (e_st x).toArray 70)
      have hst : (storeCells ⟨wr.heap.size, 0, none⟩ (e_st x)).run Try.prog (wr.alloc (.cells stZ 70)) = .ok () (wr.alloc (.cells (e_st x).toArray 70)) :=
        run_storeCells_new (P := Try.prog) wr 70 stZ (e_st x).toArray (by kernel_rfl) (by simp [stZ, e_st]) (by simp [e_st, Value.oneCell'])
      unfold stZ at hst
      go_wp2_with (first
        | refine wpList_load_mid rfl 70 (.tmp 33) rfl bb (off + k * 22) rfl (e_st x) _ hC Try.underlying70 rfl (by kernel_rfl) ?_
        | refine wpList_load_row rfl 70 (.tmp 10) rfl wr.heap.size rfl 70 (e_st x).toArray (0, 0) _ (heap_alloc_last wr _) Try.underlying70 rfl (by kernel_rfl) ?_)
      clear hst hC
      generalize wr.alloc _ = w5 at *
      refine (hO.out _).mono ?_
      rintro e w6 ⟨rfl, g6⟩
      have hr6 := hr5.below g6
      have hB6 := hB.below g6 hB.lt
      have hb6 := hb5.trans (g6.mono hb5.size)
      have e1 : w6.cell? ⟨wr.heap.size, 1, none⟩ = some (.int .i64 x.a) := hB6.cell 1
      have e3 : w6.cell? ⟨wr.heap.size, 3, none⟩ = some (.string x.s) := hB6.cell 3
      obtain ⟨xk, xa, xb, xS, xT, og, ou, oi⟩ := x
      dsimp only at hx1 hx2 hx3 hx4 hx5 e1 e3 ⊢
      have HRN : Hid (∀ w7, (∃ ns', RowS w7 w.heap.size p room c mb ns') ∧ RF RY w.heap.size w6 w7 → (∃ ns', RowS w7 w.heap.size p room c mb ns') ∧ Below w.heap.size w w7) := fun w7 h7 => ⟨h7.1, hb6.trans h7.2.bel⟩
      have HR6 := Lib.hid hr6
      clear hB hr5 hb5 hr6 hB6 hb6 g6 hrs hbel
      generalize (e_st _).toArray = X at *
      generalize wr.heap.size = bx at *
      generalize hm : xk % 4 = m at *
      clear hm
      by_cases hm0 : m = 0
      · subst hm0
        go_wp2_with fail
        refine (touch_all _ p c mb room ns xS _ HR6.out hx4).mono ?_
        rintro e w7 ⟨⟨q, rfl⟩, ns7, h7, rf7⟩
        have HN := Lib.hid (HRN.out w7 ⟨⟨_, h7⟩, rf7⟩)
        clear h7 rf7
        go_wp2_with fail
        exact ⟨⟨k + 1, by simp, by omega, HN.out.1, HN.out.2⟩, by simp only [intOf]; omega⟩
      · have hm0' : (m == 0) = false := by rw [beq_eq_false_iff_ne]; exact hm0
        by_cases hm1 : m = 1
        · subst hm1
          go_wp2_with fail
          refine (drop_any _ p c mb room ns xS _ HR6.out hx4).mono ?_
          rintro e w7 ⟨⟨q, rfl⟩, h7, rf7⟩
          have HN := Lib.hid (HRN.out w7 ⟨⟨_, h7⟩, rf7⟩)
          clear h7 rf7
          go_wp2_with fail
          exact ⟨⟨k + 1, by simp, by omega, HN.out.1, HN.out.2⟩, by simp only [intOf]; omega⟩
        · have hm1' : (m == 1) = false := by rw [beq_eq_false_iff_ne]; exact hm1
          go_wp2_with fail
          refine (putR_all _ p c mb room ns xS xa _ HR6.out hx4).mono ?_
          rintro e w7 ⟨⟨q, rfl⟩, ns7, h7, rf7⟩
          have HN := Lib.hid (HRN.out w7 ⟨⟨_, h7⟩, rf7⟩)
          clear h7 rf7
          go_wp2_with fail
          exact ⟨⟨k + 1, by simp, by omega, HN.out.1, HN.out.2⟩, by simp only [intOf]; omega⟩
    · obtain rfl : k = xs.length := by omega
      obtain ⟨hr7, hb7⟩ := And.intro hrs hbel
      go_wp2_with fail
      go_ret
      exact ⟨p, c, mb, ns, rfl, hrs, hbel⟩
end Go.Proofs.Ytnobcehiahcfkaa
