/- Bytes and texts in the walk: what the append law asks of them, a text appended to bytes, and Eq of texts. -/
import Derived.Test.YtdoeipjcohkbeaaChecked
import Derived.Test.YtdoeipjcohkbeaaBase
import Derived.Lib.AppendStr
namespace Go.Proofs.Ytdoeipjcohkbeaa
open Go.RowKit
theorem u8_le (a b : UInt8) : a ≤ b ↔ (a.toNat : Int) ≤ (b.toNat : Int) := by rw [UInt8.le_iff_toNat_le]; omega
theorem u8_eq (a b : UInt8) : a = b ↔ (a.toNat : Int) = (b.toNat : Int) := by rw [← UInt8.toNat_inj]; omega

theorem u8_beq (c d : UInt8) : ((c.toNat : Int) == (d.toNat : Int)) = (c == d) := by
  rw [Bool.eq_iff_iff]; simp only [beq_iff_eq, u8_eq]

theorem byteInfo : ElemInfo Try.prog 5 (.int .u8 0) 1 1 := by unfold ElemInfo; kernel_rfl
def eb (c : UInt8) : List Value := [bv c]
theorem eb_map (l : List UInt8) : l.flatMap eb = l.map bv := by induction l <;> simp_all [eb]
theorem eb_one (l : List UInt8) : ∀ u ∈ l.flatMap eb, u.oneCell' = true := by rw [eb_map]; simp [bv, Value.oneCell']
theorem eb_len (l : List UInt8) : (l.flatMap eb).length = l.length * 1 := by rw [eb_map]; simp

theorem all_take_succ {l : List UInt8} {k : Nat} {c : UInt8} {p : UInt8 → Bool} (hc : l[k]? = some c) (h : (l.take k).all p = true) (hp : p c = true) : (l.take (k + 1)).all p = true := by
  rw [List.take_add_one, hc]; simp_all
theorem all_false {l : List UInt8} {k : Nat} {c : UInt8} {p : UInt8 → Bool} (hc : l[k]? = some c) (hp : p c = false) : l.all p = false := by
  rw [List.all_eq_false]
  exact ⟨c, List.mem_of_getElem? hc, by simp [hp]⟩
theorem take_succ_of {l : List UInt8} {k : Nat} {c : UInt8} (hc : l[k]? = some c) : l.take (k + 1) = l.take k ++ [c] := by
  rw [List.take_add_one, hc]; rfl


section
variable {P : Program} {w : World}
theorem strCells_eb (s : ByteArray) : Lib.strCells s = (sl s).flatMap eb := by
  rw [eb_map]; rfl
/-- append of a text to bytes of one's own. -/
theorem wpList_append_text {ops : Array Oper} {rest : List Oper} {o : Oper} {a : Act} {Q : Exit → Act → World → Prop} (hgd : o.guard = none) (x y : Operand) (t u : TypeId)
    (ho : o.op = .call { callee := .builtin .append, args := #[x, y], argTypes := #[t, u] })
    (base : Nat) (e : TypeId) (ht : P.underlying t = some (.slice e)) (hu : P.underlying u = some .string) (hi : ElemInfo P e (.int .u8 0) 1 1)
    (v : Value) (l : List UInt8) (hs : a.eval x = v) (hown : Owns w base e 1 eb v l) (s : ByteArray) (hx : a.eval y = .string s)
    (hb : l.length + s.size ≤ 140737488355328) (hbase : base ≤ w.heap.size)
    (h : ∀ v' w', Owns w' base e 1 eb v' (l ++ sl s) → w.grownBy w' v.ownBlock → wpList P ops Q rest (a.put o.dst v') w') : wpList P ops Q (o :: rest) a w := by
  obtain ⟨i, hi0, hz0, hz1, hz2⟩ := info_parts hi
  refine Lib.wpList_append_own_string w hgd x y t u ho base e i ht hu hi0 hz0 hz1 hz2 v l.length _ hs hown s hx (by simp only [maxLen]; omega) hb hbase (fun v' w' h2 h3 _ => h v' w' ?_ h3)
  unfold Owns
  rw [List.length_append, List.flatMap_append, sl_len, ← strCells_eb]
  exact h2
/-- 'string(b)' of four bytes written out. -/
theorem run_string_four {src dst e : TypeId} (hs : P.underlying src = some (.slice e)) (he : P.underlying e = some (.int .u8)) (hd : P.underlying dst = some .string) (w : World) (a b c d : UInt8) :
    (convert src dst (.slice (some ⟨w.heap.size, 0, none⟩) 4 4)).run P (w.alloc (.cells #[bv a, bv b, bv c, bv d] e)) = .ok (.string (mkS [a, b, c, d])) (w.alloc (.cells #[bv a, bv b, bv c, bv d] e)) := by
  have h : Owns (w.alloc (.cells #[bv a, bv b, bv c, bv d] e)) w.heap.size e 1 eb (.slice (some ⟨w.heap.size, 0, none⟩) 4 4) [a, b, c, d] :=
    Owns.lit (size := 1) (enc := eb) w w.heap.size #[bv a, bv b, bv c, bv d] [a, b, c, d] (Nat.le_refl _) (by simp [maxLen]) (by rfl) (by rfl)
  unfold Owns at h
  rw [eb_map] at h
  exact run_string_own hs he hd h
end

/-- The first elements of a list that is read. -/
theorem SlR.take_ {α : Type} {w : World} {en : α → List Value} {A : Option Addr} {n c : Nat} {xs : List α} (h : SlR w en (.slice A n c) xs) (k : Nat) (hk : k ≤ xs.length) : SlR w en (.slice A k c) (xs.take k) := by
  obtain ⟨A', c', hv, hc, hx⟩ := h
  obtain ⟨rfl, rfl, rfl⟩ : A = A' ∧ n = xs.length ∧ c = c' := by injection hv with h1 h2 h3; exact ⟨h1, h2, h3⟩
  have hl : (xs.take k).length = k := by simp; omega
  refine ⟨A, c, by rw [hl], by omega, fun hn => ?_⟩
  obtain ⟨b, off, hA, hb, hcell⟩ := hx (by omega)
  refine ⟨b, off, hA, hb, fun j u hu => hcell j u ?_⟩
  have e : xs.flatMap en = (xs.take k).flatMap en ++ (xs.drop k).flatMap en := by rw [← List.flatMap_append, List.take_append_drop]
  rw [e, List.getElem?_append_left]
  · exact hu
  · rcases Nat.lt_or_ge j ((xs.take k).flatMap en).length with h | h
    · exact h
    · rw [List.getElem?_eq_none h] at hu; cases hu
theorem SlR.form {α : Type} {w : World} {en : α → List Value} {v : Value} {xs : List α} (h : SlR w en v xs) : ∃ A c, v = .slice A xs.length c ∧ xs.length ≤ c := by
  obtain ⟨A, c, hv, hc, _⟩ := h
  exact ⟨A, c, hv, hc⟩
theorem Owns.slice {α : Type} {w : World} {base : Nat} {e : TypeId} {size : Nat} {enc : α → List Value} {v : Value} {xs : List α} (h : Owns w base e size enc v xs) : ∃ A cap, v = .slice A xs.length cap := by
  rcases h.form with ⟨h1, h2⟩ | ⟨g, c, h1⟩
  · subst h2; exact ⟨_, _, h1⟩
  · exact ⟨_, _, h1⟩
/-- The elements from the k-th on, of a list that is read. -/
theorem SlR.drop_ {α : Type} {w : World} {en : α → List Value} {size : Nat} (hen : ∀ x, (en x).length = size) {b off n c : Nat} {xs : List α} (h : SlR w en (.slice (some ⟨b, off, none⟩) n c) xs) (k : Nat) (hk : k ≤ xs.length) (A : Option Addr) (hA : k < xs.length → A = some ⟨b, off + k * size, none⟩) : SlR w en (.slice A (n - k) (c - k)) (xs.drop k) := by
  obtain ⟨A', c', hv, hc, hx⟩ := h
  obtain ⟨rfl, rfl, rfl⟩ : some ⟨b, off, none⟩ = A' ∧ n = xs.length ∧ c = c' := by injection hv with h1 h2 h3; exact ⟨h1, h2, h3⟩
  have hl : (xs.drop k).length = xs.length - k := List.length_drop ..
  refine ⟨A, c - k, by rw [hl], by omega, fun hn => ?_⟩
  obtain ⟨b', off', hA', hb, hcell⟩ := hx (by omega)
  obtain ⟨rfl, rfl⟩ : b = b' ∧ off = off' := by injection hA' with h1; injection h1 with h1 h2 h3; exact ⟨h1, h2⟩
  refine ⟨b, off + k * size, hA (by omega), hb, fun j u hu => ?_⟩
  have e : xs.flatMap en = (xs.take k).flatMap en ++ (xs.drop k).flatMap en := by rw [← List.flatMap_append, List.take_append_drop]
  have hlk : ((xs.take k).flatMap en).length = k * size := by rw [flat_len hen, List.length_take, Nat.min_eq_left hk]
  have := hcell (k * size + j) u (by rw [e, List.getElem?_append_right (by omega), hlk, Nat.add_sub_cancel_left]; exact hu)
  rwa [← Nat.add_assoc] at this
def SameTexts (xs ys : List ByteArray) : Bool := decide (xs = ys)
set_option maxHeartbeats 800000 in
theorem eqStr_any (v1 v2 : Value) (xs ys : List ByteArray) (w : World) (h1 : SlR w es v1 xs) (h2 : SlR w es v2 ys) (hx : xs.length ≤ 140737488351232) (hy : ys.length ≤ 140737488351232) :
    Calls Try.prog 14 #[v1, v2] w fun e w' => e = .returned (.bool (SameTexts xs ys)) ∧ w = w' := by
  obtain ⟨A, c, rfl, hc, hA⟩ := h1
  obtain ⟨B, d, rfl, hd, hB⟩ := h2
  by_cases hl : xs.length = ys.length
  · have hL := Lib.hid hl
    have hb : (((xs.length : Nat) : Int) != ((ys.length : Nat) : Int)) = false := by simp [hl]
    clear hl
    go_enter Try.func14, Try.ntmps14
    go_wp2_with fail
    go_loop [14] (fun i => ∃ k : Nat, k ≤ xs.length ∧ i = .int .i64 k ∧ xs.take k = ys.take k) (fun i => xs.length - (intOf i).toNat)
    case atStart => exact ⟨0, by omega, rfl, rfl⟩
    case round =>
      obtain ⟨k, hk, rfl, hEq⟩ := hrel
      have HE := Lib.hid hEq
      clear hEq
      by_cases hlt : k < xs.length
      · have hlt' : k < ys.length := by rw [← hL.out]; exact hlt
        obtain ⟨b1, o1, rfl, hb1, hc1⟩ := hA (by omega)
        obtain ⟨b2, o2, rfl, hb2, hc2⟩ := hB (by omega)
        have c1 := hc1 k (.string xs[k]) (by rw [es_map]; simp [hlt])
        have c2 := hc2 k (.string ys[k]) (by rw [es_map]; simp [hlt'])
        clear hA hB hc1 hc2
        by_cases hxy : xs[k] = ys[k]
        · have ht : (!xs[k].toList == ys[k].toList) = false := by rw [hxy]; simp
          have HS : Hid (xs.take (k + 1) = ys.take (k + 1)) := by
            show _ = _
            rw [List.take_add_one, List.take_add_one, HE.out, List.getElem?_eq_getElem hlt, List.getElem?_eq_getElem hlt', hxy]
          clear hxy
          go_wp2_with fail
          go_round
          case rel => exact ⟨k + 1, by omega, by go_num, HS.out⟩
          case measure => simp [intOf]; omega
        · have ht : (!xs[k].toList == ys[k].toList) = true := by
            rw [ba_toList, ba_toList]; simp only [Bool.not_eq_true', beq_eq_false_iff_ne]
            exact fun h => hxy (sl_inj h)
          have HF : Hid (SameTexts xs ys = false) := by
            show _ = _
            unfold SameTexts; rw [decide_eq_false_iff_not]; rintro rfl; exact hxy rfl
          clear hxy
          go_wp2_with fail
          go_ret
          exact ⟨ret_bool HF.out.symm, rfl⟩
      · have HF : Hid (SameTexts xs ys = true) := by
          show _ = _
          unfold SameTexts; rw [decide_eq_true_iff]
          have := HE.out
          rw [List.take_of_length_le (by omega), List.take_of_length_le (by rw [← hL.out]; omega)] at this
          exact this
        go_wp2_with fail
        go_ret
        exact ⟨ret_bool HF.out.symm, rfl⟩
  · have hb : (((xs.length : Nat) : Int) != ((ys.length : Nat) : Int)) = true := by simp; omega
    have HF : Hid (SameTexts xs ys = false) := by
      show _ = _
      unfold SameTexts; rw [decide_eq_false_iff_not]; intro h; rw [h] at hl; exact hl rfl
    clear hl
    go_enter Try.func14, Try.ntmps14
    go_wp2_with fail
    go_ret
    exact ⟨ret_bool HF.out.symm, rfl⟩

theorem stringInfo : ElemInfo Try.prog 9 (.string ByteArray.empty) 1 16 := by unfold ElemInfo; kernel_rfl
end Go.Proofs.Ytdoeipjcohkbeaa
