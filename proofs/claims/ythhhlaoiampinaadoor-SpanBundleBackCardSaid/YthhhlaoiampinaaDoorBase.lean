/- Small laws on memory and strings, over any program: bytes of one's own as a text, and what a cut of a text holds. -/
import Derived.Handy
import Derived.Lib.Hide
import Derived.WalkLawsBesides
import Derived.WalkSpells
import Derived.Lib.SmallJoins
import Derived.Deep.AppendLies
import Derived.Laws.IdiomStrings
import Derived.Deep.Draws
import Derived.Laws.Rows
namespace Go.Proofs.YthhhlaoiampinaaDoor
open Go.RowKit

theorem ret_int {k : IntKind} {a b : Int} (h : a = b) : Ending.returned (.int k a) = .returned (.int k b) := by rw [h]
theorem ret_bool {a b : Bool} (h : a = b) : Ending.returned (.bool a) = .returned (.bool b) := by rw [h]
theorem ret_str {a b : ByteArray} (h : a = b) : Ending.returned (.string a) = .returned (.string b) := by rw [h]
theorem ret_si {k : IntKind} {a b : ByteArray} {c d : Int} (h : a = b) (g : c = d) : Ending.returned (.tuple #[.string a, .int k c]) = .returned (.tuple #[.string b, .int k d]) := by rw [h, g]
theorem ret_sb {a b : ByteArray} {c d : Bool} (h : a = b) (g : c = d) : Ending.returned (.tuple #[.string a, .bool c]) = .returned (.tuple #[.string b, .bool d]) := by rw [h, g]
theorem ret_ii {k l : IntKind} {a b c d : Int} (h : a = b) (g : c = d) : Ending.returned (.tuple #[.int k a, .int l c]) = .returned (.tuple #[.int k b, .int l d]) := by rw [h, g]
theorem results_tmp4 {fn : Func} {t u v x : Tmp} (h : fn.results = #[.tmp t, .tmp u, .tmp v, .tmp x]) (tmps : Array Value) (P : Program) (w : World) :
    (results fn tmps).run P w = .ok (.tuple #[tmps.getD t undef, tmps.getD u undef, tmps.getD v undef, tmps.getD x undef]) w := by simp [results, h]

/-- The length of the text in a slot: for a loop's measure. -/
def strLen : Value → Nat | .string s => s.size | _ => 0
/-- A byte as the model has it. -/
def bv (c : UInt8) : Value := .int .u8 (c.toNat : Int)
/-- The text of a list of bytes. -/
def mkS (l : List UInt8) : ByteArray := ⟨l.toArray⟩
/-- The bytes of a text. -/
def sl (s : ByteArray) : List UInt8 := s.data.toList
theorem sl_mkS (l : List UInt8) : sl (mkS l) = l := by simp [sl, mkS]
theorem mkS_sl (s : ByteArray) : mkS (sl s) = s := by
  cases s; rfl
theorem sl_len (s : ByteArray) : (sl s).length = s.size := Array.length_toList
theorem mkS_size (l : List UInt8) : (mkS l).size = l.length := rfl
theorem sl_inj {s t : ByteArray} (h : sl s = sl t) : s = t := by rw [← mkS_sl s, h, mkS_sl]
theorem sl_getElem (s : ByteArray) (i : Nat) (h : i < s.size) : (sl s)[i]'(by rw [sl_len]; exact h) = s[i] := by
  simp only [sl, Array.getElem_toList]; rfl
theorem sl_getElem? (s : ByteArray) (i : Nat) (h : i < s.size) : (sl s)[i]? = some s[i] := by
  rw [List.getElem?_eq_getElem (by rw [sl_len]; exact h), sl_getElem]
theorem sl_extract (s : ByteArray) (a b : Nat) : sl (s.extract a b) = ((sl s).drop a).take (b - a) := by
  simp [sl, ByteArray.data_extract, List.extract_eq_take_drop]
theorem sl_extract_end (s : ByteArray) (a : Nat) : sl (s.extract a s.size) = (sl s).drop a := by
  rw [sl_extract, List.take_of_length_le]; simp [sl_len]
theorem sl_empty : sl ByteArray.empty = [] := rfl
theorem sl_append (s t : ByteArray) : sl (s ++ t) = sl s ++ sl t := by simp [sl, ByteArray.data_append]
theorem ext_size (s : ByteArray) (a b : Nat) (h : b ≤ s.size) : (s.extract a b).size = b - a := by simp [ByteArray.size_extract]; omega

theorem sl_cons (r : ByteArray) (h : 0 < r.size) : sl r = r[0] :: sl (r.extract 1 r.size) := by
  rw [sl_extract_end]
  have hl : 0 < (sl r).length := by rw [sl_len]; exact h
  rw [← sl_getElem r 0 h]
  exact (List.drop_eq_getElem_cons hl)
theorem empty_of_size (r : ByteArray) (h : r.size = 0) : r = ByteArray.empty :=
  sl_inj (by rw [sl_empty]; exact List.eq_nil_of_length_eq_zero (by rw [sl_len]; exact h))
theorem ba_toList (r : ByteArray) : r.toList = sl r := by
  exact Go.ByteArray.toList_eq r
theorem isEmpty_no (r : ByteArray) (h : 0 < r.size) : r.toList.isEmpty = false := by
  rw [ba_toList, sl_cons r h]; rfl
theorem strLen_eq (s : ByteArray) : strLen (.string s) = s.size := rfl

section
variable {P : Program}
/-- 'string(b)' of bytes of one's own. -/
theorem run_string_own {w : World} {base : Nat} {src dst e : TypeId} {v : Value} {n : Nat} {l : List UInt8} (hs : P.underlying src = some (.slice e)) (he : P.underlying e = some (.int .u8)) (hd : P.underlying dst = some .string)
    (h : w.ownsRow base e 1 v n (l.map bv)) : (convert src dst v).run P w = .ok (.string (mkS l)) w := by
  rcases Joins.ownsRow_forms h with ⟨rfl, rfl⟩ | ⟨g, cap, rfl⟩
  · have : l = [] := by have := h.1; simpa using this
    subst this
    exact run_convert_bytes_nil (w := w) src e hs he 0 0 dst hd
  · have hl : n = l.length := by have := h.1; simpa using this.symm
    subst hl
    refine run_convert_bytes_back w src dst e ⟨g, 0, none⟩ cap l hs he hd (fun j hj => ?_)
    exact h.cells (g := g) rfl j _ (by simp [List.getElem?_map, List.getElem?_eq_getElem hj, bv])

/-! ### A list of one's own: every element by its cells. -/
/-- 'v' is a slice of the call's own (from block 'base' on) that holds the list xs, each element by its cells. -/
def Owns {α : Type} (w : World) (base : Nat) (e : TypeId) (size : Nat) (enc : α → List Value) (v : Value) (xs : List α) : Prop := w.ownsRow base e size v xs.length (xs.flatMap enc)

/-- What the append law asks of an element type. -/
def ElemInfo (P : Program) (e : TypeId) (z : Value) (size bytes : Nat) : Prop := (P.info? e).map (fun i => (i.zero, i.size, i.bytes)) = some (some z, size, bytes)

section
variable {α : Type} {w w' : World} {base : Nat} {e : TypeId} {size : Nat} {enc : α → List Value} {v : Value} {xs : List α}
theorem Owns.nil (w : World) (base : Nat) (e : TypeId) (size : Nat) (enc : α → List Value) : Owns w base e size enc (.slice none 0 0) [] := World.ownsRow_nil w base e size
theorem Owns.alloc (h : Owns w base e size enc v xs) (o : Obj) : Owns (w.alloc o) base e size enc v xs := World.ownsRow.alloc h o
theorem Owns.drew (h : Owns w base e size enc v xs) : Owns w.drew base e size enc v xs := h
theorem Owns.lt (h : Owns w base e size enc v xs) : ∀ k, v.ownBlock = some k → base ≤ k ∧ k < w.heap.size := World.ownsRow.lt h
theorem Owns.below (h : Owns w base e size enc v xs) (hb : Below w.heap.size w w') : Owns w' base e size enc v xs := by
  refine World.ownsRow.kept h (row := none) ⟨hb.os, hb.tape, hb.output, hb.size, fun k hk _ => hb.block k hk⟩ ?_
  cases h' : v.ownBlock with
  | none => exact .inl rfl
  | some k => exact .inr (by intro x; cases x)
theorem Owns.mono {base' : Nat} (h : Owns w base e size enc v xs) (hb : base' ≤ base) : Owns w base' e size enc v xs := Joins.ownsRow_le h hb
theorem Owns.form (h : Owns w base e size enc v xs) : (v = .slice none 0 0 ∧ xs = []) ∨ ∃ g cap, v = .slice (some ⟨g, 0, none⟩) xs.length cap := by
  rcases Joins.ownsRow_forms h with ⟨h1, h2⟩ | h1
  · exact .inl ⟨h1, List.eq_nil_of_length_eq_zero h2⟩
  · exact .inr h1
end

theorem le_alloc (w : World) (o : Obj) : w.heap.size ≤ (w.alloc o).heap.size := by simp
theorem bel_size {B : Nat} {a w : World} (h : Below B a w) (hB : B ≤ a.heap.size) (o : Obj) : B ≤ (w.alloc o).heap.size := Nat.le_trans hB (Nat.le_trans h.size (le_alloc w o))
/-- Behind an append to what is one's own. -/
theorem bel_append {α : Type} {B : Nat} {e : TypeId} {size : Nat} {enc : α → List Value} {v : Value} {xs : List α} {w wr w1 : World} {o : Obj} (hbel : Below B w wr) (hB : B ≤ w.heap.size) (hown : Owns wr B e size enc v xs) (hg : (wr.alloc o).grownBy w1 v.ownBlock) : Below B w w1 :=
  (hbel.alloc (Nat.le_trans hB hbel.size) o).grown hg (bel_size hbel hB o) (fun k h => (hown.lt k h).1)
theorem Owns.lit {α : Type} {e : TypeId} {size : Nat} {enc : α → List Value} (w : World) (base : Nat) (cs : Array Value) (xs : List α) (hb : base ≤ w.heap.size) (hm : xs.length ≤ maxLen) (hs : cs.size = xs.length * size) (hc : cs.toList = xs.flatMap enc) :
    Owns (w.alloc (.cells cs e)) base e size enc (.slice (some ⟨w.heap.size, 0, none⟩) xs.length xs.length) xs := by
  unfold Owns
  rw [← hc]
  exact World.ownsRow_lit w cs xs.length hb hm hs
/-- The cells of a new block. -/
theorem new_cells (w : World) (cs : List Value) (t : TypeId) : ∀ j u, cs[j]? = some u → (w.alloc (.cells cs.toArray t)).cell? ((⟨w.heap.size, 0, none⟩ : Addr).add j) = some u := by
  intro j u h
  have e : ((⟨w.heap.size, 0, none⟩ : Addr).add j) = ⟨w.heap.size, j, none⟩ := by
    unfold Addr.add; split <;> simp_all
  rw [e, World.cell?_alloc_at _ _ _ _ rfl]
  simpa using h

theorem wpList_append_owns {α : Type} {ops : Array Oper} {rest : List Oper} {o : Oper} {a : Act} {Q : Exit → Act → World → Prop} {w : World} (hgd : o.guard = none) (s x : Operand) (t : TypeId)
    (ho : o.op = .call { callee := .builtin .append, args := #[s, x], argTypes := #[t, t] })
    (base : Nat) (e : TypeId) (z : Value) (size bytes : Nat) (enc : α → List Value) (ht : P.underlying t = some (.slice e)) (hi : ElemInfo P e z size bytes)
    (hzs : z.cells.size = size) (hsz : 0 < size)
    (v : Value) (xs : List α) (hs : a.eval s = v) (hown : Owns w base e size enc v xs)
    (ad : Addr) (m c : Nat) (news : List α) (hx : a.eval x = .slice (some ad) m c) (hm : m = news.length) (hl : (news.flatMap enc).length = m * size) (hnews : ∀ j u, (news.flatMap enc)[j]? = some u → w.cell? (ad.add j) = some u) (h1 : ∀ u ∈ news.flatMap enc, u.oneCell' = true)
    (h63 : xs.length + m ≤ maxLen) (hbytes : (xs.length + m) * bytes ≤ 140737488355328) (hbase : base ≤ w.heap.size)
    (h : ∀ v' w', Owns w' base e size enc v' (xs ++ news) → w.grownBy w' v.ownBlock → wpList P ops Q rest (a.put o.dst v') w') : wpList P ops Q (o :: rest) a w := by
  obtain ⟨i, hi0, hz0, hz1, hz2⟩ := info_parts hi
  refine wpList_append_own w hgd s x t ho base e i z size bytes ht hi0 hz0 hz1 hz2 hzs hsz v xs.length _ hs hown ad m c (news.flatMap enc) hx hl hnews h1 h63 hbytes hbase (fun v' w' h2 h3 _ => h v' w' ?_ h3)
  unfold Owns
  rw [List.length_append, List.flatMap_append, ← hm]
  exact h2
end

/-! ### A list that is read. -/
/-- 'v' is a slice that reads as the list xs, each element by its cells (of a slice without elements nothing else is known). -/
def SlR {α : Type} (w : World) (enc : α → List Value) (v : Value) (xs : List α) : Prop :=
  ∃ A c, v = .slice A xs.length c ∧ xs.length ≤ c ∧ (0 < xs.length → ∃ b off, A = some ⟨b, off, none⟩ ∧ b < w.heap.size ∧ ∀ j u, (xs.flatMap enc)[j]? = some u → w.cell? ⟨b, off + j, none⟩ = some u)
section
variable {α : Type} {w w' : World} {enc : α → List Value} {v : Value} {xs : List α}
theorem SlR.nil (w : World) (enc : α → List Value) : SlR w enc (.slice none 0 0) [] := ⟨none, 0, rfl, Nat.le_refl _, fun h => by simp at h⟩
theorem SlR.keep (h : SlR w enc v xs) (hs : w.heap.size ≤ w'.heap.size) (hk : ∀ p : Addr, p.block < w.heap.size → w'.cell? p = w.cell? p) : SlR w' enc v xs := by
  obtain ⟨A, c, hv, hc, hx⟩ := h
  refine ⟨A, c, hv, hc, fun hn => ?_⟩
  obtain ⟨b, off, hA, hb, hcell⟩ := hx hn
  exact ⟨b, off, hA, by omega, fun j u hu => (hk _ hb).trans (hcell j u hu)⟩
theorem SlR.below (h : SlR w enc v xs) (hb : Below w.heap.size w w') : SlR w' enc v xs := h.keep hb.size fun _ hp => hb.cell hp
theorem SlR.alloc (h : SlR w enc v xs) (o : Obj) : SlR (w.alloc o) enc v xs := h.keep (le_alloc w o) fun p hp => World.cell?_alloc_lt w o p hp
theorem SlR.drew (h : SlR w enc v xs) : SlR w.drew enc v xs := h
theorem SlR.of_owns {base : Nat} {e : TypeId} {size : Nat} (h : Owns w base e size enc v xs) : SlR w enc v xs := by
  rcases h.form with ⟨rfl, rfl⟩ | ⟨g, cap, rfl⟩
  · exact SlR.nil w enc
  · have hcap : xs.length ≤ cap := by
      rcases h.2 with ⟨h1, _⟩ | ⟨g', cap', cur, hv, _, _, hc, _⟩
      · simp at h1
      · have : cap = cap' := by injection hv
        omega
    refine ⟨_, cap, rfl, hcap, fun hn => ⟨g, 0, rfl, (h.lt g rfl).2, fun j u hu => ?_⟩⟩
    have := World.ownsRow.cells h (g := g) rfl j u hu
    have e : ((⟨g, 0, none⟩ : Addr).add j) = ⟨g, 0 + j, none⟩ := by unfold Addr.add; split <;> simp_all
    rw [e] at this
    exact this
theorem SlR.lit (w : World) (cs : List Value) (t : TypeId) (xs : List α) (h : cs = xs.flatMap enc) : SlR (w.alloc (.cells cs.toArray t)) enc (.slice (some ⟨w.heap.size, 0, none⟩) xs.length xs.length) xs := by
  refine ⟨_, _, rfl, Nat.le_refl _, fun _ => ⟨w.heap.size, 0, rfl, by simp, fun j u hu => ?_⟩⟩
  have := new_cells w cs t j u (by rw [h]; exact hu)
  have e : ((⟨w.heap.size, 0, none⟩ : Addr).add j) = ⟨w.heap.size, 0 + j, none⟩ := by unfold Addr.add; split <;> simp_all
  rwa [e] at this
end
/-- A text as one cell. -/
def es (s : ByteArray) : List Value := [.string s]
theorem es_map (l : List ByteArray) : l.flatMap es = l.map Value.string := by induction l <;> simp_all [es]
theorem es_one (l : List ByteArray) : ∀ u ∈ l.flatMap es, u.oneCell' = true := by rw [es_map]; simp [Value.oneCell']
theorem es_len (l : List ByteArray) : (l.flatMap es).length = l.length * 1 := by rw [es_map]; simp
/-- A slice of texts that has an element: its cells. -/
theorem SlR.texts {w : World} {v : Value} {xs : List ByteArray} (h : SlR w es v xs) (hn : 0 < xs.length) :
    ∃ b off c, v = .slice (some ⟨b, off, none⟩) xs.length c ∧ xs.length ≤ c ∧ b < w.heap.size ∧ ∀ j (hj : j < xs.length), w.cell? ⟨b, off + j, none⟩ = some (.string xs[j]) := by
  obtain ⟨A, c, hv, hc, hx⟩ := h
  obtain ⟨b, off, rfl, hb, hcell⟩ := hx hn
  exact ⟨b, off, c, hv, hc, hb, fun j hj => hcell j _ (by rw [es_map]; simp [hj])⟩

/-! ### A block that is known whole. -/
def Blk (w : World) (g : Nat) (t : TypeId) (cs : Array Value) : Prop := w.heap[g]? = some (.cells cs t (0, 0))
section
variable {w w' : World} {g : Nat} {t : TypeId} {cs : Array Value}
theorem Blk.lt (h : Blk w g t cs) : g < w.heap.size := by
  rcases Nat.lt_or_ge g w.heap.size with hlt | hge
  · exact hlt
  · unfold Blk at h; rw [Array.getElem?_eq_none hge] at h; cases h
theorem Blk.cell (h : Blk w g t cs) (i : Nat) : w.cell? ⟨g, i, none⟩ = cs[i]? := cell_of_row w g i cs t (0, 0) h
theorem Blk.frozen (h : Blk w g t cs) (i : Nat) : w.frozen? ⟨g, i, none⟩ = false := by
  unfold Blk at h
  simp [World.frozen?, h]
theorem Blk.new (w : World) (t : TypeId) (cs : Array Value) : Blk (w.alloc (.cells cs t)) w.heap.size t cs := heap_alloc_new w _
theorem Blk.drew (h : Blk w g t cs) : Blk w.drew g t cs := h
theorem Blk.alloc (h : Blk w g t cs) (o : Obj) : Blk (w.alloc o) g t cs := (Below.heap_alloc w o g h.lt).trans h
theorem Blk.set_ (h : Blk w g t cs) (i : Nat) (u : Value) : Blk (w.setCell ⟨g, i, none⟩ u) g t (cs.setIfInBounds i u) := by
  unfold Blk at h ⊢
  simp [World.setCell, Array.getElem?_modify, h]
theorem Blk.far (h : Blk w g t cs) {p : Addr} (hp : g ≠ p.block) (u : Value) : Blk (w.setCell p u) g t cs := (Below.heap_setCell w p u g hp).trans h
theorem Blk.below {B : Nat} (h : Blk w g t cs) (hb : Below B w w') (hg : g < B) : Blk w' g t cs := (hb.block g hg).trans h
theorem Blk.grown {row : Option Nat} (h : Blk w g t cs) (hb : w.grownBy w' row) (hg : some g ≠ row) : Blk w' g t cs := (hb.block g h.lt hg).trans h
end
/-- What came from calls, one behind the other. -/
theorem belT {w a b : World} (h : Below w.heap.size w a) (k : Below a.heap.size a b) : Below w.heap.size w b := h.trans (k.mono h.size)

/-! ### append of a list that is read, to one's own. -/
section
variable {P : Program}
theorem run_append_nil (w : World) (base : Nat) (t ty e : TypeId) (i : TypeInfo) (size : Nat) (ht : P.underlying t = some (.slice e)) (hi : P.info? e = some i)
    (v : Value) (n : Nat) (xs : List Value) (hown : w.ownsRow base e size v n xs) (c : Nat) : (Builtin.append_ #[t, t] ty #[v, .slice none 0 c]).run P w = .ok v w := by
  rcases hown.2 with ⟨rfl, rfl⟩ | ⟨g, cap, cur, rfl, _, _, hnc, _⟩
  · simp [Builtin.append_, run_underlying ht, sizeOf, typeInfo, hi, Builtin.lenOf, Builtin.firstCells]
  · simp [Builtin.append_, run_underlying ht, sizeOf, typeInfo, hi, Builtin.lenOf, Builtin.firstCells, hnc, storeCells]
theorem flat_len {α : Type} {en : α → List Value} {size : Nat} (hen : ∀ x, (en x).length = size) : ∀ xs : List α, (xs.flatMap en).length = xs.length * size
  | [] => by simp
  | x :: xs => by rw [List.flatMap_cons, List.length_append, hen, flat_len hen xs, List.length_cons, Nat.succ_mul, Nat.add_comm]
theorem wpList_append_slr {α : Type} {ops : Array Oper} {rest : List Oper} {o : Oper} {a : Act} {Q : Exit → Act → World → Prop} {w : World} (hgd : o.guard = none) (s x : Operand) (t : TypeId)
    (ho : o.op = .call { callee := .builtin .append, args := #[s, x], argTypes := #[t, t] })
    (base : Nat) (e : TypeId) (z : Value) (size bytes : Nat) (enc : α → List Value) (ht : P.underlying t = some (.slice e)) (hi : ElemInfo P e z size bytes)
    (hzs : z.cells.size = size) (hsz : 0 < size) (hen : ∀ x, (enc x).length = size)
    (v : Value) (xs : List α) (hs : a.eval s = v) (hown : Owns w base e size enc v xs)
    (u : Value) (news : List α) (hx : a.eval x = u) (hr : SlR w enc u news) (h1 : ∀ u ∈ news.flatMap enc, u.oneCell' = true)
    (h63 : xs.length + news.length ≤ maxLen) (hbytes : (xs.length + news.length) * bytes ≤ 140737488355328) (hbase : base ≤ w.heap.size)
    (h : ∀ v' w', Owns w' base e size enc v' (xs ++ news) → w.grownBy w' v.ownBlock → wpList P ops Q rest (a.put o.dst v') w') : wpList P ops Q (o :: rest) a w := by
  obtain ⟨A, c, rfl, hc, hA⟩ := hr
  cases A with
  | none =>
    have hn : news = [] := by
      cases news with
      | nil => rfl
      | cons y ys => obtain ⟨b, off, h, _⟩ := hA (by simp); cases h
    subst hn
    obtain ⟨i, hi0, _, _, _⟩ := info_parts hi
    refine wpList_plain hgd fun K hK => ?_
    have hrun := run_append_nil (P := P) w base t o.type e i size ht hi0 v _ _ hown c
    unfold Oper.wp execOp
    simp only [List.length_nil] at hx
    simp only [ho, resolve, invoke, builtin, Sem.run_bind, Sem.run_pure, Result.andThen_ok, List.map_toArray, List.map_cons, List.map_nil, hs, hx, hrun]
    exact hK _ _ (h v w (by simpa using hown) (World.grownBy.refl w _))
  | some ad =>
    refine wpList_append_owns hgd s x t ho base e z size bytes enc ht hi hzs hsz v xs hs hown ad news.length c news hx rfl (flat_len hen news) (fun j u hu => ?_) h1 h63 hbytes hbase h
    have hlen : 0 < news.length := by
      cases news with
      | nil => simp at hu
      | cons y ys => simp
    obtain ⟨b, off, hh, _, hcell⟩ := hA hlen
    injection hh with hh
    subst hh
    have e : ((⟨b, off, none⟩ : Addr).add j) = ⟨b, off + j, none⟩ := by unfold Addr.add; split <;> simp_all
    rw [e]
    exact hcell j u hu
end
/-- Behind an append to one's own, without a block laid before. -/
theorem bel_append0 {α : Type} {B : Nat} {e : TypeId} {size : Nat} {enc : α → List Value} {v : Value} {xs : List α} {w wr w1 : World} (hbel : Below B w wr) (hB : B ≤ w.heap.size) (hown : Owns wr B e size enc v xs) (hg : wr.grownBy w1 v.ownBlock) : Below B w w1 :=
  hbel.grown hg (Nat.le_trans hB hbel.size) (fun k h => (hown.lt k h).1)

/-! ### Structs by their cells; sums over lists. -/
def e_ss (d : ByteArray × ByteArray) : List Value := [.string d.1, .string d.2]
def e_sbs (d : ByteArray × Bool × ByteArray) : List Value := [.string d.1, .bool d.2.1, .string d.2.2]
def e_bs (d : Bool × ByteArray) : List Value := [.bool d.1, .string d.2]
def e_ii (d : Int × Int) : List Value := [.int .i64 d.1, .int .i64 d.2]
theorem sum_mem {α : Type} (f : α → Nat) : ∀ {l : List α} {x : α}, x ∈ l → f x ≤ (l.map f).sum
  | y :: l, x, h => by
    simp only [List.map_cons, List.sum_cons]
    rcases List.mem_cons.1 h with rfl | h
    · omega
    · have := sum_mem f h; omega
theorem sum_len {α : Type} (f : α → Nat) (hf : ∀ x, 1 ≤ f x) : ∀ (l : List α), l.length ≤ (l.map f).sum
  | [] => by simp
  | y :: l => by have := sum_len f hf l; have := hf y; simp only [List.map_cons, List.sum_cons, List.length_cons]; omega
end Go.Proofs.YthhhlaoiampinaaDoor
