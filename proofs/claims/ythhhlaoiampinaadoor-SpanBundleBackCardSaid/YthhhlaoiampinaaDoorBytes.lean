/- Bytes and texts in the walk: what the append law asks of them, a text appended to bytes, and Eq of texts. -/
import Derived.Test.YthhhlaoiampinaaDoorChecked
import Derived.Test.YthhhlaoiampinaaDoorBase
import Derived.Lib.AppendStr
namespace Go.Proofs.YthhhlaoiampinaaDoor
open Go.RowKit
theorem u8_le (a b : UInt8) : a ≤ b ↔ (a.toNat : Int) ≤ (b.toNat : Int) := by rw [UInt8.le_iff_toNat_le]; omega
theorem u8_eq (a b : UInt8) : a = b ↔ (a.toNat : Int) = (b.toNat : Int) := by rw [← UInt8.toNat_inj]; omega

theorem u8_beq (c d : UInt8) : ((c.toNat : Int) == (d.toNat : Int)) = (c == d) := by
  rw [Bool.eq_iff_iff]; simp only [beq_iff_eq, u8_eq]

theorem byteInfo : ElemInfo Tryd.prog 5 (.int .u8 0) 1 1 := by unfold ElemInfo; kernel_rfl
def eb (c : UInt8) : List Value := [bv c]
theorem eb_map (l : List UInt8) : l.flatMap eb = l.map bv := by induction l <;> simp_all [eb]
theorem eb_one (l : List UInt8) : ∀ u ∈ l.flatMap eb, u.oneCell' = true := by rw [eb_map]; simp [bv, Value.oneCell']
theorem eb_len (l : List UInt8) : (l.flatMap eb).length = l.length * 1 := by rw [eb_map]; simp

theorem all_take_succ {l : List UInt8} {k : Nat} {c : UInt8} {p : UInt8 → Bool} (hc : l[k]? = some c) (h : (l.take k).all p = true) (hp : p c = true) : (l.take (k + 1)).all p = true := by
  rw [List.take_add_one, hc]; simp_all
theorem all_false {l : List UInt8} {k : Nat} {c : UInt8} {p : UInt8 → Bool} (hc : l[k]? = some c) (hp : p c = false) : l.all p = false := by
  rw [List.all_eq_false]
  exact ⟨c, List.mem_of_getElem? hc, by simp [hp]⟩
theorem take_succ_of {l : List UInt8} {k : Nat} {c : UInt8} (hc : l[k]? = some c) : l.take (k + 1) = l.take k ++ [c] := by
  rw [List.take_add_one, hc]; rfl


section
variable {P : Program} {w : World}
theorem strCells_eb (s : ByteArray) : Lib.strCells s = (sl s).flatMap eb := by
  rw [eb_map]; rfl
/-- append of a text to bytes of one's own. -/
theorem wpList_append_text {ops : Array Oper} {rest : List Oper} {o : Oper} {a : Act} {Q : Exit → Act → World → Prop} (hgd : o.guard = none) (x y : Operand) (t u : TypeId)
    (ho : o.op = .call { callee := .builtin .append, args := #[x, y], argTypes := #[t, u] })
    (base : Nat) (e : TypeId) (ht : P.underlying t = some (.slice e)) (hu : P.underlying u = some .string) (hi : ElemInfo P e (.int .u8 0) 1 1)
    (v : Value) (l : List UInt8) (hs : a.eval x = v) (hown : Owns w base e 1 eb v l) (s : ByteArray) (hx : a.eval y = .string s)
    (hb : l.length + s.size ≤ 140737488355328) (hbase : base ≤ w.heap.size)
    (h : ∀ v' w', Owns w' base e 1 eb v' (l ++ sl s) → w.grownBy w' v.ownBlock → wpList P ops Q rest (a.put o.dst v') w') : wpList P ops Q (o :: rest) a w := by
  obtain ⟨i, hi0, hz0, hz1, hz2⟩ := info_parts hi
  refine Lib.wpList_append_own_string w hgd x y t u ho base e i ht hu hi0 hz0 hz1 hz2 v l.length _ hs hown s hx (by simp only [maxLen]; omega) hb hbase (fun v' w' h2 h3 _ => h v' w' ?_ h3)
  unfold Owns
  rw [List.length_append, List.flatMap_append, sl_len, ← strCells_eb]
  exact h2
/-- 'string(b)' of four bytes written out. -/
theorem run_string_four {src dst e : TypeId} (hs : P.underlying src = some (.slice e)) (he : P.underlying e = some (.int .u8)) (hd : P.underlying dst = some .string) (w : World) (a b c d : UInt8) :
    (convert src dst (.slice (some ⟨w.heap.size, 0, none⟩) 4 4)).run P (w.alloc (.cells #[bv a, bv b, bv c, bv d] e)) = .ok (.string (mkS [a, b, c, d])) (w.alloc (.cells #[bv a, bv b, bv c, bv d] e)) := by
  have h : Owns (w.alloc (.cells #[bv a, bv b, bv c, bv d] e)) w.heap.size e 1 eb (.slice (some ⟨w.heap.size, 0, none⟩) 4 4) [a, b, c, d] :=
    Owns.lit (size := 1) (enc := eb) w w.heap.size #[bv a, bv b, bv c, bv d] [a, b, c, d] (Nat.le_refl _) (by simp [maxLen]) (by rfl) (by rfl)
  unfold Owns at h
  rw [eb_map] at h
  exact run_string_own hs he hd h
end

/-- The first elements of a list that is read. -/
theorem SlR.take_ {α : Type} {w : World} {en : α → List Value} {A : Option Addr} {n c : Nat} {xs : List α} (h : SlR w en (.slice A n c) xs) (k : Nat) (hk : k ≤ xs.length) : SlR w en (.slice A k c) (xs.take k) := by
  obtain ⟨A', c', hv, hc, hx⟩ := h
  obtain ⟨rfl, rfl, rfl⟩ : A = A' ∧ n = xs.length ∧ c = c' := by injection hv with h1 h2 h3; exact ⟨h1, h2, h3⟩
  have hl : (xs.take k).length = k := by simp; omega
  refine ⟨A, c, by rw [hl], by omega, fun hn => ?_⟩
  obtain ⟨b, off, hA, hb, hcell⟩ := hx (by omega)
  refine ⟨b, off, hA, hb, fun j u hu => hcell j u ?_⟩
  have e : xs.flatMap en = (xs.take k).flatMap en ++ (xs.drop k).flatMap en := by rw [← List.flatMap_append, List.take_append_drop]
  rw [e, List.getElem?_append_left]
  · exact hu
  · rcases Nat.lt_or_ge j ((xs.take k).flatMap en).length with h | h
    · exact h
    · rw [List.getElem?_eq_none h] at hu; cases hu
theorem SlR.form {α : Type} {w : World} {en : α → List Value} {v : Value} {xs : List α} (h : SlR w en v xs) : ∃ A c, v = .slice A xs.length c ∧ xs.length ≤ c := by
  obtain ⟨A, c, hv, hc, _⟩ := h
  exact ⟨A, c, hv, hc⟩
theorem Owns.slice {α : Type} {w : World} {base : Nat} {e : TypeId} {size : Nat} {enc : α → List Value} {v : Value} {xs : List α} (h : Owns w base e size enc v xs) : ∃ A cap, v = .slice A xs.length cap := by
  rcases h.form with ⟨h1, h2⟩ | ⟨g, c, h1⟩
  · subst h2; exact ⟨_, _, h1⟩
  · exact ⟨_, _, h1⟩
/-- The elements from the k-th on, of a list that is read. -/
theorem SlR.drop_ {α : Type} {w : World} {en : α → List Value} {size : Nat} (hen : ∀ x, (en x).length = size) {b off n c : Nat} {xs : List α} (h : SlR w en (.slice (some ⟨b, off, none⟩) n c) xs) (k : Nat) (hk : k ≤ xs.length) (A : Option Addr) (hA : k < xs.length → A = some ⟨b, off + k * size, none⟩) : SlR w en (.slice A (n - k) (c - k)) (xs.drop k) := by
  obtain ⟨A', c', hv, hc, hx⟩ := h
  obtain ⟨rfl, rfl, rfl⟩ : some ⟨b, off, none⟩ = A' ∧ n = xs.length ∧ c = c' := by injection hv with h1 h2 h3; exact ⟨h1, h2, h3⟩
  have hl : (xs.drop k).length = xs.length - k := List.length_drop ..
  refine ⟨A, c - k, by rw [hl], by omega, fun hn => ?_⟩
  obtain ⟨b', off', hA', hb, hcell⟩ := hx (by omega)
  obtain ⟨rfl, rfl⟩ : b = b' ∧ off = off' := by injection hA' with h1; injection h1 with h1 h2 h3; exact ⟨h1, h2⟩
  refine ⟨b, off + k * size, hA (by omega), hb, fun j u hu => ?_⟩
  have e : xs.flatMap en = (xs.take k).flatMap en ++ (xs.drop k).flatMap en := by rw [← List.flatMap_append, List.take_append_drop]
  have hlk : ((xs.take k).flatMap en).length = k * size := by rw [flat_len hen, List.length_take, Nat.min_eq_left hk]
  have := hcell (k * size + j) u (by rw [e, List.getElem?_append_right (by omega), hlk, Nat.add_sub_cancel_left]; exact hu)
  rwa [← Nat.add_assoc] at this
theorem stringInfo : ElemInfo Tryd.prog 9 (.string ByteArray.empty) 1 16 := by unfold ElemInfo; kernel_rfl
end Go.Proofs.YthhhlaoiampinaaDoor
