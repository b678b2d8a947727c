import Derived.Handy
import Derived.Lib.Hide
import Derived.WalkLawsBesides
import Derived.WalkSpells
import Derived.Lib.SmallJoins
import Derived.Deep.AppendLies
import Derived.Laws.IdiomStrings
import Derived.Deep.Draws
import Derived.Laws.Rows
import Derived.Maps.RangeWalk
import Derived.StringKeys
import Derived.Test.YtgnblkmpoigejaaGreatDoorChecked
import Derived.Lib.AppendStr
import Derived.Laws.Tables
set_option linter.unusedVariables false
set_option linter.unusedSimpArgs false
namespace Go.Proofs.YtgnblkmpoigejaaGreatDoor
open Go.RowKit
theorem ret_int {k : IntKind} {a b : Int} (h : a = b) : Ending.returned (.int k a) = .returned (.int k b) := by rw [h]
theorem ret_bool {a b : Bool} (h : a = b) : Ending.returned (.bool a) = .returned (.bool b) := by rw [h]
theorem ret_str {a b : ByteArray} (h : a = b) : Ending.returned (.string a) = .returned (.string b) := by rw [h]
theorem ret_si {k : IntKind} {a b : ByteArray} {c d : Int} (h : a = b) (g : c = d) : Ending.returned (.tuple #[.string a, .int k c]) = .returned (.tuple #[.string b, .int k d]) := by rw [h, g]
theorem ret_ii {k l : IntKind} {a b c d : Int} (h : a = b) (g : c = d) : Ending.returned (.tuple #[.int k a, .int l c]) = .returned (.tuple #[.int k b, .int l d]) := by rw [h, g]
theorem results_tmp4 {fn : Func} {t u v x : Tmp} (h : fn.results = #[.tmp t, .tmp u, .tmp v, .tmp x]) (tmps : Array Value) (P : Program) (w : World) :
  (results fn tmps).run P w = .ok (.tuple #[tmps.getD t undef, tmps.getD u undef, tmps.getD v undef, tmps.getD x undef]) w := by simp [results, h]
def strLen : Value → Nat | .string s => s.size | _ => 0
def bv (c : UInt8) : Value := .int .u8 (c.toNat : Int)
def mkS (l : List UInt8) : ByteArray := ⟨l.toArray⟩
def sl (s : ByteArray) : List UInt8 := s.data.toList
theorem sl_mkS (l : List UInt8) : sl (mkS l) = l := by simp [sl, mkS]
theorem mkS_sl (s : ByteArray) : mkS (sl s) = s := by
 cases s; rfl
theorem sl_len (s : ByteArray) : (sl s).length = s.size := Array.length_toList
theorem mkS_size (l : List UInt8) : (mkS l).size = l.length := rfl
theorem sl_inj {s t : ByteArray} (h : sl s = sl t) : s = t := by rw [← mkS_sl s, h, mkS_sl]
theorem sl_getElem (s : ByteArray) (i : Nat) (h : i < s.size) : (sl s)[i]'(by rw [sl_len]; exact h) = s[i] := by
 simp only [sl, Array.getElem_toList]; rfl
theorem sl_getElem? (s : ByteArray) (i : Nat) (h : i < s.size) : (sl s)[i]? = some s[i] := by
 rw [List.getElem?_eq_getElem (by rw [sl_len]; exact h), sl_getElem]
theorem sl_extract (s : ByteArray) (a b : Nat) : sl (s.extract a b) = ((sl s).drop a).take (b - a) := by
 simp [sl, ByteArray.data_extract, List.extract_eq_take_drop]
theorem sl_extract_end (s : ByteArray) (a : Nat) : sl (s.extract a s.size) = (sl s).drop a := by
 rw [sl_extract, List.take_of_length_le]; simp [sl_len]
theorem sl_empty : sl ByteArray.empty = [] := rfl
theorem sl_append (s t : ByteArray) : sl (s ++ t) = sl s ++ sl t := by simp [sl, ByteArray.data_append]
theorem ext_size (s : ByteArray) (a b : Nat) (h : b ≤ s.size) : (s.extract a b).size = b - a := by simp [ByteArray.size_extract]; omega
theorem sl_cons (r : ByteArray) (h : 0 < r.size) : sl r = r[0] :: sl (r.extract 1 r.size) := by
 rw [sl_extract_end]
 have hl : 0 < (sl r).length := by rw [sl_len]; exact h
 rw [← sl_getElem r 0 h]
 exact (List.drop_eq_getElem_cons hl)
theorem empty_of_size (r : ByteArray) (h : r.size = 0) : r = ByteArray.empty :=
 sl_inj (by rw [sl_empty]; exact List.eq_nil_of_length_eq_zero (by rw [sl_len]; exact h))
theorem ba_toList (r : ByteArray) : r.toList = sl r := by
 exact Go.ByteArray.toList_eq r
theorem isEmpty_no (r : ByteArray) (h : 0 < r.size) : r.toList.isEmpty = false := by
 rw [ba_toList, sl_cons r h]; rfl
section
variable {P : Program}
theorem run_string_own {w : World} {base : Nat} {src dst e : TypeId} {v : Value} {n : Nat} {l : List UInt8} (hs : P.underlying src = some (.slice e)) (he : P.underlying e = some (.int .u8)) (hd : P.underlying dst = some .string)
  (h : w.ownsRow base e 1 v n (l.map bv)) : (convert src dst v).run P w = .ok (.string (mkS l)) w := by
 rcases Joins.ownsRow_forms h with ⟨rfl, rfl⟩ | ⟨g, cap, rfl⟩
 ·have : l = [] := by have := h.1; simpa using this
  subst this
  exact run_convert_bytes_nil (w := w) src e hs he 0 0 dst hd
 ·have hl : n = l.length := by have := h.1; simpa using this.symm
  subst hl
  refine run_convert_bytes_back w src dst e ⟨g, 0, none⟩ cap l hs he hd (fun j hj => ?_)
  exact h.cells (g := g) rfl j _ (by simp [List.getElem?_map, List.getElem?_eq_getElem hj, bv])
def Owns {α : Type} (w : World) (base : Nat) (e : TypeId) (size : Nat) (enc : α → List Value) (v : Value) (xs : List α) : Prop := w.ownsRow base e size v xs.length (xs.flatMap enc)
def ElemInfo (P : Program) (e : TypeId) (z : Value) (size bytes : Nat) : Prop := (P.info? e).map (fun i => (i.zero, i.size, i.bytes)) = some (some z, size, bytes)
section
variable {α : Type} {w w' : World} {base : Nat} {e : TypeId} {size : Nat} {enc : α → List Value} {v : Value} {xs : List α}
theorem Owns.nil (w : World) (base : Nat) (e : TypeId) (size : Nat) (enc : α → List Value) : Owns w base e size enc (.slice none 0 0) [] := World.ownsRow_nil w base e size
theorem Owns.alloc (h : Owns w base e size enc v xs) (o : Obj) : Owns (w.alloc o) base e size enc v xs := World.ownsRow.alloc h o
theorem Owns.drew (h : Owns w base e size enc v xs) : Owns w.drew base e size enc v xs := h
theorem Owns.lt (h : Owns w base e size enc v xs) : ∀ k, v.ownBlock = some k → base ≤ k ∧ k < w.heap.size := World.ownsRow.lt h
theorem Owns.below (h : Owns w base e size enc v xs) (hb : Below w.heap.size w w') : Owns w' base e size enc v xs := by
 refine World.ownsRow.kept h (row := none) ⟨hb.os, hb.tape, hb.output, hb.size, fun k hk _ => hb.block k hk⟩ ?_
 cases h' : v.ownBlock with
 | none => exact .inl rfl
 | some k => exact .inr (by intro x; cases x)
theorem Owns.mono {base' : Nat} (h : Owns w base e size enc v xs) (hb : base' ≤ base) : Owns w base' e size enc v xs := Joins.ownsRow_le h hb
theorem Owns.form (h : Owns w base e size enc v xs) : (v = .slice none 0 0 ∧ xs = []) ∨ ∃ g cap, v = .slice (some ⟨g, 0, none⟩) xs.length cap := by
 rcases Joins.ownsRow_forms h with ⟨h1, h2⟩ | h1
 ·exact .inl ⟨h1, List.eq_nil_of_length_eq_zero h2⟩
 ·exact .inr h1
end
theorem le_alloc (w : World) (o : Obj) : w.heap.size ≤ (w.alloc o).heap.size := by simp
theorem bel_size {B : Nat} {a w : World} (h : Below B a w) (hB : B ≤ a.heap.size) (o : Obj) : B ≤ (w.alloc o).heap.size := Nat.le_trans hB (Nat.le_trans h.size (le_alloc w o))
theorem bel_append {α : Type} {B : Nat} {e : TypeId} {size : Nat} {enc : α → List Value} {v : Value} {xs : List α} {w wr w1 : World} {o : Obj} (hbel : Below B w wr) (hB : B ≤ w.heap.size) (hown : Owns wr B e size enc v xs) (hg : (wr.alloc o).grownBy w1 v.ownBlock) : Below B w w1 :=
 (hbel.alloc (Nat.le_trans hB hbel.size) o).grown hg (bel_size hbel hB o) (fun k h => (hown.lt k h).1)
theorem Owns.lit {α : Type} {e : TypeId} {size : Nat} {enc : α → List Value} (w : World) (base : Nat) (cs : Array Value) (xs : List α) (hb : base ≤ w.heap.size) (hm : xs.length ≤ maxLen) (hs : cs.size = xs.length * size) (hc : cs.toList = xs.flatMap enc) :
  Owns (w.alloc (.cells cs e)) base e size enc (.slice (some ⟨w.heap.size, 0, none⟩) xs.length xs.length) xs := by
 unfold Owns
 rw [← hc]
 exact World.ownsRow_lit w cs xs.length hb hm hs
theorem new_cells (w : World) (cs : List Value) (t : TypeId) : ∀ j u, cs[j]? = some u → (w.alloc (.cells cs.toArray t)).cell? ((⟨w.heap.size, 0, none⟩ : Addr).add j) = some u := by
 intro j u h
 have e : ((⟨w.heap.size, 0, none⟩ : Addr).add j) = ⟨w.heap.size, j, none⟩ := by
  unfold Addr.add; split <;> simp_all
 rw [e, World.cell?_alloc_at _ _ _ _ rfl]
 simpa using h
theorem wpList_append_owns {α : Type} {ops : Array Oper} {rest : List Oper} {o : Oper} {a : Act} {Q : Exit → Act → World → Prop} {w : World} (hgd : o.guard = none) (s x : Operand) (t : TypeId)
  (ho : o.op = .call { callee := .builtin .append, args := #[s, x], argTypes := #[t, t] })
  (base : Nat) (e : TypeId) (z : Value) (size bytes : Nat) (enc : α → List Value) (ht : P.underlying t = some (.slice e)) (hi : ElemInfo P e z size bytes)
  (hzs : z.cells.size = size) (hsz : 0 < size)
  (v : Value) (xs : List α) (hs : a.eval s = v) (hown : Owns w base e size enc v xs)
  (ad : Addr) (m c : Nat) (news : List α) (hx : a.eval x = .slice (some ad) m c) (hm : m = news.length) (hl : (news.flatMap enc).length = m * size) (hnews : ∀ j u, (news.flatMap enc)[j]? = some u → w.cell? (ad.add j) = some u) (h1 : ∀ u ∈ news.flatMap enc, u.oneCell' = true)
  (h63 : xs.length + m ≤ maxLen) (hbytes : (xs.length + m) * bytes ≤ 140737488355328) (hbase : base ≤ w.heap.size)
  (h : ∀ v' w', Owns w' base e size enc v' (xs ++ news) → w.grownBy w' v.ownBlock → wpList P ops Q rest (a.put o.dst v') w') : wpList P ops Q (o :: rest) a w := by
 obtain ⟨i, hi0, hz0, hz1, hz2⟩ := info_parts hi
 refine wpList_append_own w hgd s x t ho base e i z size bytes ht hi0 hz0 hz1 hz2 hzs hsz v xs.length _ hs hown ad m c (news.flatMap enc) hx hl hnews h1 h63 hbytes hbase (fun v' w' h2 h3 _ => h v' w' ?_ h3)
 unfold Owns
 rw [List.length_append, List.flatMap_append, ← hm]
 exact h2
end
def SlR {α : Type} (w : World) (enc : α → List Value) (v : Value) (xs : List α) : Prop :=
 ∃ A c, v = .slice A xs.length c ∧ xs.length ≤ c ∧ (0 < xs.length → ∃ b off, A = some ⟨b, off, none⟩ ∧ b < w.heap.size ∧ ∀ j u, (xs.flatMap enc)[j]? = some u → w.cell? ⟨b, off + j, none⟩ = some u)
section
variable {α : Type} {w w' : World} {enc : α → List Value} {v : Value} {xs : List α}
theorem SlR.nil (w : World) (enc : α → List Value) : SlR w enc (.slice none 0 0) [] := ⟨none, 0, rfl, Nat.le_refl _, fun h => by simp at h⟩
theorem SlR.keep (h : SlR w enc v xs) (hs : w.heap.size ≤ w'.heap.size) (hk : ∀ p : Addr, p.block < w.heap.size → w'.cell? p = w.cell? p) : SlR w' enc v xs := by
 obtain ⟨A, c, hv, hc, hx⟩ := h
 refine ⟨A, c, hv, hc, fun hn => ?_⟩
 obtain ⟨b, off, hA, hb, hcell⟩ := hx hn
 exact ⟨b, off, hA, by omega, fun j u hu => (hk _ hb).trans (hcell j u hu)⟩
theorem SlR.below (h : SlR w enc v xs) (hb : Below w.heap.size w w') : SlR w' enc v xs := h.keep hb.size fun _ hp => hb.cell hp
theorem SlR.alloc (h : SlR w enc v xs) (o : Obj) : SlR (w.alloc o) enc v xs := h.keep (le_alloc w o) fun p hp => World.cell?_alloc_lt w o p hp
theorem SlR.drew (h : SlR w enc v xs) : SlR w.drew enc v xs := h
theorem SlR.of_owns {base : Nat} {e : TypeId} {size : Nat} (h : Owns w base e size enc v xs) : SlR w enc v xs := by
 rcases h.form with ⟨rfl, rfl⟩ | ⟨g, cap, rfl⟩
 ·exact SlR.nil w enc
 ·have hcap : xs.length ≤ cap := by
   rcases h.2 with ⟨h1, _⟩ | ⟨g', cap', cur, hv, _, _, hc, _⟩
   ·simp at h1
   ·have : cap = cap' := by injection hv
    omega
  refine ⟨_, cap, rfl, hcap, fun hn => ⟨g, 0, rfl, (h.lt g rfl).2, fun j u hu => ?_⟩⟩
  have := World.ownsRow.cells h (g := g) rfl j u hu
  have e : ((⟨g, 0, none⟩ : Addr).add j) = ⟨g, 0 + j, none⟩ := by unfold Addr.add; split <;> simp_all
  rw [e] at this
  exact this
theorem SlR.lit (w : World) (cs : List Value) (t : TypeId) (xs : List α) (h : cs = xs.flatMap enc) : SlR (w.alloc (.cells cs.toArray t)) enc (.slice (some ⟨w.heap.size, 0, none⟩) xs.length xs.length) xs := by
 refine ⟨_, _, rfl, Nat.le_refl _, fun _ => ⟨w.heap.size, 0, rfl, by simp, fun j u hu => ?_⟩⟩
 have := new_cells w cs t j u (by rw [h]; exact hu)
 have e : ((⟨w.heap.size, 0, none⟩ : Addr).add j) = ⟨w.heap.size, 0 + j, none⟩ := by unfold Addr.add; split <;> simp_all
 rwa [e] at this
end
def es (s : ByteArray) : List Value := [.string s]
theorem es_map (l : List ByteArray) : l.flatMap es = l.map Value.string := by induction l <;> simp_all [es]
theorem es_one (l : List ByteArray) : ∀ u ∈ l.flatMap es, u.oneCell' = true := by rw [es_map]; simp [Value.oneCell']
theorem SlR.texts {w : World} {v : Value} {xs : List ByteArray} (h : SlR w es v xs) (hn : 0 < xs.length) :
  ∃ b off c, v = .slice (some ⟨b, off, none⟩) xs.length c ∧ xs.length ≤ c ∧ b < w.heap.size ∧ ∀ j (hj : j < xs.length), w.cell? ⟨b, off + j, none⟩ = some (.string xs[j]) := by
 obtain ⟨A, c, hv, hc, hx⟩ := h
 obtain ⟨b, off, rfl, hb, hcell⟩ := hx hn
 exact ⟨b, off, c, hv, hc, hb, fun j hj => hcell j _ (by rw [es_map]; simp [hj])⟩
def Blk (w : World) (g : Nat) (t : TypeId) (cs : Array Value) : Prop := w.heap[g]? = some (.cells cs t (0, 0))
section
variable {w w' : World} {g : Nat} {t : TypeId} {cs : Array Value}
theorem Blk.lt (h : Blk w g t cs) : g < w.heap.size := by
 rcases Nat.lt_or_ge g w.heap.size with hlt | hge
 ·exact hlt
 ·unfold Blk at h; rw [Array.getElem?_eq_none hge] at h; cases h
theorem Blk.cell (h : Blk w g t cs) (i : Nat) : w.cell? ⟨g, i, none⟩ = cs[i]? := cell_of_row w g i cs t (0, 0) h
theorem Blk.frozen (h : Blk w g t cs) (i : Nat) : w.frozen? ⟨g, i, none⟩ = false := by
 unfold Blk at h
 simp [World.frozen?, h]
theorem Blk.new (w : World) (t : TypeId) (cs : Array Value) : Blk (w.alloc (.cells cs t)) w.heap.size t cs := heap_alloc_new w _
theorem Blk.drew (h : Blk w g t cs) : Blk w.drew g t cs := h
theorem Blk.alloc (h : Blk w g t cs) (o : Obj) : Blk (w.alloc o) g t cs := (Below.heap_alloc w o g h.lt).trans h
theorem Blk.set_ (h : Blk w g t cs) (i : Nat) (u : Value) : Blk (w.setCell ⟨g, i, none⟩ u) g t (cs.setIfInBounds i u) := by
 unfold Blk at h ⊢
 simp [World.setCell, Array.getElem?_modify, h]
theorem Blk.far (h : Blk w g t cs) {p : Addr} (hp : g ≠ p.block) (u : Value) : Blk (w.setCell p u) g t cs := (Below.heap_setCell w p u g hp).trans h
theorem Blk.below {B : Nat} (h : Blk w g t cs) (hb : Below B w w') (hg : g < B) : Blk w' g t cs := (hb.block g hg).trans h
theorem Blk.grown {row : Option Nat} (h : Blk w g t cs) (hb : w.grownBy w' row) (hg : some g ≠ row) : Blk w' g t cs := (hb.block g h.lt hg).trans h
end
theorem belT {w a b : World} (h : Below w.heap.size w a) (k : Below a.heap.size a b) : Below w.heap.size w b := h.trans (k.mono h.size)
section
variable {P : Program}
theorem run_append_nil (w : World) (base : Nat) (t ty e : TypeId) (i : TypeInfo) (size : Nat) (ht : P.underlying t = some (.slice e)) (hi : P.info? e = some i)
  (v : Value) (n : Nat) (xs : List Value) (hown : w.ownsRow base e size v n xs) (c : Nat) : (Builtin.append_ #[t, t] ty #[v, .slice none 0 c]).run P w = .ok v w := by
 rcases hown.2 with ⟨rfl, rfl⟩ | ⟨g, cap, cur, rfl, _, _, hnc, _⟩
 ·simp [Builtin.append_, run_underlying ht, sizeOf, typeInfo, hi, Builtin.lenOf, Builtin.firstCells]
 ·simp [Builtin.append_, run_underlying ht, sizeOf, typeInfo, hi, Builtin.lenOf, Builtin.firstCells, hnc, storeCells]
theorem flat_len {α : Type} {en : α → List Value} {size : Nat} (hen : ∀ x, (en x).length = size) : ∀ xs : List α, (xs.flatMap en).length = xs.length * size
 | [] => by simp
 | x :: xs => by rw [List.flatMap_cons, List.length_append, hen, flat_len hen xs, List.length_cons, Nat.succ_mul, Nat.add_comm]
theorem wpList_append_slr {α : Type} {ops : Array Oper} {rest : List Oper} {o : Oper} {a : Act} {Q : Exit → Act → World → Prop} {w : World} (hgd : o.guard = none) (s x : Operand) (t : TypeId)
  (ho : o.op = .call { callee := .builtin .append, args := #[s, x], argTypes := #[t, t] })
  (base : Nat) (e : TypeId) (z : Value) (size bytes : Nat) (enc : α → List Value) (ht : P.underlying t = some (.slice e)) (hi : ElemInfo P e z size bytes)
  (hzs : z.cells.size = size) (hsz : 0 < size) (hen : ∀ x, (enc x).length = size)
  (v : Value) (xs : List α) (hs : a.eval s = v) (hown : Owns w base e size enc v xs)
  (u : Value) (news : List α) (hx : a.eval x = u) (hr : SlR w enc u news) (h1 : ∀ u ∈ news.flatMap enc, u.oneCell' = true)
  (h63 : xs.length + news.length ≤ maxLen) (hbytes : (xs.length + news.length) * bytes ≤ 140737488355328) (hbase : base ≤ w.heap.size)
  (h : ∀ v' w', Owns w' base e size enc v' (xs ++ news) → w.grownBy w' v.ownBlock → wpList P ops Q rest (a.put o.dst v') w') : wpList P ops Q (o :: rest) a w := by
 obtain ⟨A, c, rfl, hc, hA⟩ := hr
 cases A with
 | none =>
  have hn : news = [] := by
   cases news with
   | nil => rfl
   | cons y ys => obtain ⟨b, off, h, _⟩ := hA (by simp); cases h
  subst hn
  obtain ⟨i, hi0, _, _, _⟩ := info_parts hi
  refine wpList_plain hgd fun K hK => ?_
  have hrun := run_append_nil (P := P) w base t o.type e i size ht hi0 v _ _ hown c
  unfold Oper.wp execOp
  simp only [List.length_nil] at hx
  simp only [ho, resolve, invoke, builtin, Sem.run_bind, Sem.run_pure, Result.andThen_ok, List.map_toArray, List.map_cons, List.map_nil, hs, hx, hrun]
  exact hK _ _ (h v w (by simpa using hown) (World.grownBy.refl w _))
 | some ad =>
  refine wpList_append_owns hgd s x t ho base e z size bytes enc ht hi hzs hsz v xs hs hown ad news.length c news hx rfl (flat_len hen news) (fun j u hu => ?_) h1 h63 hbytes hbase h
  have hlen : 0 < news.length := by
   cases news with
   | nil => simp at hu
   | cons y ys => simp
  obtain ⟨b, off, hh, _, hcell⟩ := hA hlen
  injection hh with hh
  subst hh
  have e : ((⟨b, off, none⟩ : Addr).add j) = ⟨b, off + j, none⟩ := by unfold Addr.add; split <;> simp_all
  rw [e]
  exact hcell j u hu
end
def e_ss (d : ByteArray × ByteArray) : List Value := [.string d.1, .string d.2]
def e_sbs (d : ByteArray × Bool × ByteArray) : List Value := [.string d.1, .bool d.2.1, .string d.2.2]
theorem sum_mem {α : Type} (f : α → Nat) : ∀ {l : List α} {x : α}, x ∈ l → f x ≤ (l.map f).sum
 | y :: l, x, h => by
  simp only [List.map_cons, List.sum_cons]
  rcases List.mem_cons.1 h with rfl | h
  ·omega
  ·have := sum_mem f h; omega
theorem sum_len {α : Type} (f : α → Nat) (hf : ∀ x, 1 ≤ f x) : ∀ (l : List α), l.length ≤ (l.map f).sum
 | [] => by simp
 | y :: l => by have := sum_len f hf l; have := hf y; simp only [List.map_cons, List.sum_cons, List.length_cons]; omega
end Go.Proofs.YtgnblkmpoigejaaGreatDoor
namespace Go.Proofs.YtgnblkmpoigejaaGreatDoor
namespace Ca
variable {α : Type} (cm : α → Int)
def bestS (b : Option α) (x : α) : Option α :=
 match b with
 | none => some x
 | some y => if cm y ≤ cm x then some x else some y
def best (l : List α) : Option α := l.foldl (bestS cm) none
theorem best_snoc (l : List α) (x : α) : best cm (l ++ [x]) = bestS cm (best cm l) x := by
 unfold best
 rw [List.foldl_append]
 rfl
theorem snocRec {P : List α → Prop} (h0 : P []) (hs : ∀ l x, P l → P (l ++ [x])) (l : List α) : P l := by
 rw [← List.reverse_reverse l]
 induction l.reverse with
 | nil => exact h0
 | cons x t ih => rw [List.reverse_cons]; exact hs _ _ ih
theorem bestS_some (b : Option α) (x : α) : bestS cm b x ≠ none := by
 unfold bestS
 split
 ·simp
 ·split <;> simp
theorem best_none {l : List α} (h : best cm l = none) : l = [] := by
 revert h
 refine snocRec (P := fun l => best cm l = none → l = []) (fun _ => rfl) (fun l x _ h => ?_) l
 rw [best_snoc] at h
 exact absurd h (bestS_some cm _ _)
theorem best_mem {l : List α} {x : α} (h : best cm l = some x) : x ∈ l := by
 revert x
 refine snocRec (P := fun l => ∀ {x}, best cm l = some x → x ∈ l) (fun h => by cases h) (fun l y ih x h => ?_) l
 rw [best_snoc] at h
 unfold bestS at h
 split at h
 ·cases h; simp
 ·rename_i z hz
  split at h
  ·cases h; simp
  ·cases h; exact List.mem_append_left _ (ih hz)
theorem best_ge {l : List α} {x : α} (h : best cm l = some x) : ∀ y ∈ l, cm y ≤ cm x := by
 revert x
 refine snocRec (P := fun l => ∀ {x}, best cm l = some x → ∀ y ∈ l, cm y ≤ cm x) (fun h => by cases h) (fun l y ih x h z hz => ?_) l
 rw [best_snoc] at h
 unfold bestS at h
 split at h
 ·rename_i hb
  rw [best_none cm hb] at hz
  cases h
  simp only [List.nil_append, List.mem_singleton] at hz
  rw [hz]; exact Int.le_refl _
 ·rename_i b hb
  rcases List.mem_append.1 hz with hz | hz
  ·have h1 := ih hb z hz
   split at h <;> cases h <;> omega
  ·rw [List.mem_singleton.1 hz]
   split at h <;> cases h <;> omega
end Ca
set_option maxRecDepth 20000
open Go.RowKit
open Go.Maps (Keyed)
def heldR (v : Value) : Option (DataW Value × List MemPlace) := some (.held v, [])
def kl (s : ByteArray) : Lit := .string s.data.toList
theorem kl_inj {s t : ByteArray} (h : kl s = kl t) : s = t := by
 unfold kl at h
 injection h with h
 exact sl_inj h
theorem kl_ne {s t : ByteArray} (h : s ≠ t) : kl s ≠ kl t := fun e => h (kl_inj e)
theorem kl_key (s : ByteArray) : WideAt.IsKeyLit (kl s) := trivial
def fput (f : ByteArray → Option Value) (k : ByteArray) (v : Value) : ByteArray → Option Value := fun x => if x = k then some v else f x
def fdel (f : ByteArray → Option Value) (k : ByteArray) : ByteArray → Option Value := fun x => if x = k then none else f x
def MapS (P : Program) (w : World) (kt : TypeId) (b : Nat) (f : ByteArray → Option Value) (c : Nat) : Prop :=
 ∃ D, w.ownsMap P kt heldR b c D ∧ Maps.size D = c ∧ (∀ k z, D.atKey (kl k) z = (match f k with | some v => .held v | none => z)) ∧ ∀ k, Maps.has D (kl k) = (f k).isSome
section
variable {P : Program} {w w' : World} {kt : TypeId} {b c : Nat} {f : ByteArray → Option Value}
theorem owns_size {H : Type} {R : Value → Option (DataW H × List MemPlace)} {n : Nat} {D : DataW H} (h : w.ownsMap P kt R b n D) : w.ownsMap P kt R b (Maps.size D) D := by
 obtain ⟨es, clock, hb, F, hs, rfl⟩ := h
 exact ⟨es, clock, hb, F, by simp [Maps.size, length_sorted], rfl⟩
theorem MapS.lt (h : MapS P w kt b f c) : b < w.heap.size := by
 obtain ⟨D, h, _⟩ := h; exact h.lt
theorem MapS.isMapObj (h : MapS P w kt b f c) : ∃ es clock, w.heap[b]? = some (.map es clock) := by
 obtain ⟨D, ⟨es, clock, hb, _⟩, _⟩ := h; exact ⟨es, clock, hb⟩
theorem MapS.ne_blk (h : MapS P w kt b f c) {g : Nat} {t : TypeId} {cs : Array Value} (hb : Blk w g t cs) : b ≠ g := by
 obtain ⟨es, clock, hm⟩ := h.isMapObj
 intro e
 subst e
 unfold Blk at hb
 rw [hm] at hb
 cases hb
theorem MapS.kept {row : Option Nat} (h : MapS P w kt b f c) (hg : w.grownBy w' row) (hne : some b ≠ row) : MapS P w' kt b f c := by
 obtain ⟨D, h, r⟩ := h; exact ⟨D, h.kept hg hne, r⟩
theorem MapS.alloc (h : MapS P w kt b f c) (o : Obj) : MapS P (w.alloc o) kt b f c := by
 obtain ⟨D, h, r⟩ := h; exact ⟨D, h.alloc o, r⟩
theorem MapS.drew (h : MapS P w kt b f c) : MapS P w.drew kt b f c := h
theorem MapS.below (h : MapS P w kt b f c) (hb : Below w.heap.size w w') : MapS P w' kt b f c :=
 h.kept (row := none) ⟨hb.os, hb.tape, hb.output, hb.size, fun k hk _ => hb.block k hk⟩ (by simp)
theorem MapS.setCell (h : MapS P w kt b f c) {g i : Nat} {t : TypeId} {cs : Array Value} (hb : Blk w g t cs) (u : Value) : MapS P (w.setCell ⟨g, i, none⟩ u) kt b f c := by
 have hne := h.ne_blk hb
 obtain ⟨D, h, r⟩ := h; exact ⟨D, h.setCell hne u, r⟩
theorem MapS.made (w : World) (P : Program) (kt : TypeId) : MapS P (w.alloc (.map #[] 0)) kt w.heap.size (fun _ => none) 0 :=
 ⟨_, World.ownsMap_made w P kt heldR, rfl, fun _ _ => rfl, fun _ => rfl⟩
theorem MapS.congr {g : ByteArray → Option Value} {d : Nat} (h : MapS P w kt b f c) (hf : ∀ k, f k = g k) (hc : c = d) : MapS P w kt b g d := by
 subst hc
 obtain ⟨D, h, r1, r2, r3⟩ := h
 exact ⟨D, h, r1, fun k z => by rw [r2 k z, hf k], fun k => by rw [r3 k, hf k]⟩
variable {t e : TypeId}
theorem MapS.look (h : MapS P w kt b f c) (hk : P.underlying kt = some .string) (ht : P.underlying t = some (.map kt e)) {z : Value} (hz : (zeroValue e).run P w = .ok z w) {k : ByteArray} (hks : k.size ≤ maxLen) :
  (Instr.lookup t (.map (some b)) (.string k) false).run P w = .ok ((f k).getD z) w := by
 obtain ⟨D, h, _, hat, _⟩ := h
 obtain ⟨v, ps, hrun, hv⟩ := h.lookup (Maps.string_keyed hk) ht hz (zd := .held z) (zp := []) rfl (Go.WideMaps.keyOf_string_mk hk hks)
 have h1 : (DataW.held v : DataW Value) = D.atKey (kl k) (.held z) := by
  unfold heldR at hv
  injection hv with hv
  exact (Prod.mk.inj hv).1
 rw [hat] at h1
 rw [hrun]
 cases hf : f k with
 | none => rw [hf] at h1; injection h1 with h1; rw [h1]; rfl
 | some u => rw [hf] at h1; injection h1 with h1; rw [h1]; rfl
theorem MapS.look_ok (h : MapS P w kt b f c) (hk : P.underlying kt = some .string) (ht : P.underlying t = some (.map kt e)) {z : Value} (hz : (zeroValue e).run P w = .ok z w) {k : ByteArray} (hks : k.size ≤ maxLen) :
  (Instr.lookup t (.map (some b)) (.string k) true).run P w = .ok (.tuple #[(f k).getD z, .bool (f k).isSome]) w := by
 obtain ⟨D, h, _, hat, hh⟩ := h
 obtain ⟨v, ps, hrun, hv⟩ := h.look_ok (Maps.string_keyed hk) ht hz (zd := .held z) (zp := []) rfl (Go.WideMaps.keyOf_string_mk hk hks)
 have h1 : (DataW.held v : DataW Value) = D.atKey (kl k) (.held z) := by
  unfold heldR at hv
  injection hv with hv
  exact (Prod.mk.inj hv).1
 rw [hat] at h1
 rw [hrun, show Maps.has D (Lit.string k.data.toList) = (f k).isSome from hh k]
 cases hf : f k with
 | none => rw [hf] at h1; injection h1 with h1; rw [h1]; rfl
 | some u => rw [hf] at h1; injection h1 with h1; rw [h1]; rfl
theorem MapS.len_ (h : MapS P w kt b f c) (ht : P.underlying t = some (.map kt e)) (ty : TypeId) : (Builtin.len_ #[t] ty #[.map (some b)]).run P w = .ok (.int .i64 (c : Int)) w := by
 obtain ⟨D, h, hc, _⟩ := h
 rw [h.len ht ty, hc]
theorem MapS.upd (h : MapS P w kt b f c) (hk : P.underlying kt = some .string) (ht : P.underlying t = some (.map kt e)) {k : ByteArray} (hks : k.size ≤ maxLen) (v : Value) (hc : c < maxLen) :
  ∃ w', (Instr.mapUpdate t (.map (some b)) (.string k) v).run P w = .ok () w' ∧ MapS P w' kt b (fput f k v) (if (f k).isSome then c else c + 1) ∧ w.mapTurned w' b := by
 obtain ⟨D, h, hs, hat, hh⟩ := h
 obtain ⟨w', hrun, r1, r2⟩ := h.store (Maps.string_keyed hk) ht hc (Go.WideMaps.keyOf_string_mk hk hks) (val := v) (d := .held v) (ps := []) rfl
 have hT := h.tidy (Maps.string_keyed hk)
 have hsz : Maps.size (D.put (kl k) (.held v)) = if (f k).isSome then c else c + 1 := by
  rw [Maps.size_put hT, hh k, hs]
 refine ⟨w', hrun, ⟨D.put (kl k) (.held v), hsz ▸ owns_size r1, hsz, fun x z => ?_, fun x => ?_⟩, r2⟩
 ·unfold fput
  by_cases hx : x = k
  ·subst hx
   rw [Maps.atKey_put_same hT.isMap (kl_key x), if_pos rfl]
  ·rw [Maps.atKey_put_other (kl_ne hx), if_neg hx, hat]
 ·unfold fput
  by_cases hx : x = k
  ·subst hx
   rw [Maps.has_put_same hT.isMap (kl_key x), if_pos rfl]
   rfl
  ·rw [Maps.has_put_other (kl_ne hx), if_neg hx, hh]
theorem MapS.del_ (h : MapS P w kt b f c) (hk : P.underlying kt = some .string) (ht : P.underlying t = some (.map kt e)) {k : ByteArray} (hks : k.size ≤ maxLen) (ty : TypeId) :
  ∃ w', (Builtin.delete_ #[t, kt] ty #[.map (some b), .string k]).run P w = .ok (.tuple #[]) w' ∧ MapS P w' kt b (fdel f k) (if (f k).isSome then c - 1 else c) ∧ w.mapTurned w' b := by
 obtain ⟨D, h, hs, hat, hh⟩ := h
 obtain ⟨w', hrun, r1, r2⟩ := h.drop (Maps.string_keyed hk) ht (Go.WideMaps.keyOf_string_mk hk hks) ty
 have hT := h.tidy (Maps.string_keyed hk)
 have hsz : Maps.size (D.del (kl k)) = if (f k).isSome then c - 1 else c := by
  have := Maps.size_del hT (k := kl k)
  rw [hh k, hs] at this
  split at this <;> split <;> simp_all <;> omega
 refine ⟨w', hrun, ⟨D.del (kl k), hsz ▸ owns_size r1, hsz, fun x z => ?_, fun x => ?_⟩, r2⟩
 ·unfold fdel
  by_cases hx : x = k
  ·subst hx
   rw [Maps.atKey_del_same, if_pos rfl]
  ·rw [Maps.atKey_del_other (kl_ne hx), if_neg hx, hat]
 ·unfold fdel
  by_cases hx : x = k
  ·subst hx
   rw [Maps.has_del_same, if_pos rfl]
   rfl
  ·rw [Maps.has_del_other (kl_ne hx), if_neg hx, hh]
theorem wpList_upd {ops : Array Oper} {rest : List Oper} {o : Oper} {a : Act} {Q : Exit → Act → World → Prop} (hg : o.guard = none) (m x v : Operand) (hop : o.op = Op.mapUpdate t m x v)
  (hm : a.eval m = .map (some b)) (h : MapS P w kt b f c) (hk : P.underlying kt = some .string) (ht : P.underlying t = some (.map kt e)) (k : ByteArray) (u : Value) (hx : a.eval x = .string k) (hv : a.eval v = u) (hks : k.size ≤ maxLen) (hc : c < maxLen)
  (hK : ∀ w', MapS P w' kt b (fput f k u) (if (f k).isSome then c else c + 1) → w.grownBy w' (some b) → wpList P ops Q rest (a.put o.dst undef) w') : wpList P ops Q (o :: rest) a w := by
 refine wpList_plain hg fun K' hK' => ?_
 obtain ⟨w', hrun, r1, r2⟩ := h.upd hk ht hks u hc
 unfold Oper.wp
 simp [execOp, hop, hm, hx, hv, hrun, Result.andThen]
 exact hK' _ _ (hK w' r1 r2.grown)
theorem wpList_del {ops : Array Oper} {rest : List Oper} {o : Oper} {a : Act} {Q : Exit → Act → World → Prop} (hg : o.guard = none) (m x : Operand) (hop : o.op = Op.call { callee := Callee.builtin Builtin.delete, args := #[m, x], argTypes := #[t, kt] })
  (hm : a.eval m = .map (some b)) (h : MapS P w kt b f c) (hk : P.underlying kt = some .string) (ht : P.underlying t = some (.map kt e)) (k : ByteArray) (hx : a.eval x = .string k) (hks : k.size ≤ maxLen)
  (hK : ∀ w', MapS P w' kt b (fdel f k) (if (f k).isSome then c - 1 else c) → w.grownBy w' (some b) → wpList P ops Q rest (a.put o.dst (.tuple #[])) w') : wpList P ops Q (o :: rest) a w := by
 refine wpList_plain hg fun K' hK' => ?_
 obtain ⟨w', hrun, r1, r2⟩ := h.del_ hk ht hks o.type
 unfold Oper.wp
 simp [execOp, hop, resolve, invoke, builtin, hm, hx, hrun, Result.andThen]
 exact hK' _ _ (hK w' r1 r2.grown)
end
set_option maxRecDepth 20000
def RngS (P : Program) (w : World) (kt : TypeId) (b r : Nat) (f : ByteArray → Option Value) (left : ByteArray → Bool) (cnt : Nat) : Prop :=
 ∃ n D L, w.ranges P kt heldR b r n D L cnt ∧ (∀ k z, D.atKey (kl k) z = (match f k with | some v => .held v | none => z)) ∧ (∀ k, Maps.has D (kl k) = (f k).isSome) ∧ (∀ k, L (kl k) = left k)
section
variable {P : Program} {w w' : World} {kt : TypeId} {b r cnt : Nat} {f : ByteArray → Option Value} {left : ByteArray → Bool}
theorem RngS.kept {row : Option Nat} (h : RngS P w kt b r f left cnt) (hg : w.grownBy w' row) (hb : some b ≠ row) (hr : some r ≠ row) : RngS P w' kt b r f left cnt := by
 obtain ⟨n, D, L, h, x⟩ := h; exact ⟨n, D, L, h.kept hg hb hr, x⟩
theorem RngS.alloc (h : RngS P w kt b r f left cnt) (o : Obj) : RngS P (w.alloc o) kt b r f left cnt := by
 obtain ⟨n, D, L, h, x⟩ := h; exact ⟨n, D, L, h.alloc o, x⟩
theorem RngS.map (h : RngS P w kt b r f left cnt) : ∃ c, MapS P w kt b f c := by
 obtain ⟨n, D, L, h, x1, x2, _⟩ := h; exact ⟨_, D, owns_size h.owns, rfl, x1, x2⟩
theorem RngS.iter (h : RngS P w kt b r f left cnt) : ∃ m s se c, w.heap[r]? = some (.mapIter m s se c) := by
 obtain ⟨n, D, L, ⟨es, clock, since, seen, c0, _, _, _, _, hr, _⟩, _⟩ := h; exact ⟨_, _, _, _, hr⟩
theorem RngS.left_eq (h : RngS P w kt b r f left cnt) : w.rangeLeft b r = cnt := by obtain ⟨n, D, L, h, x⟩ := h; exact h.left_eq
variable {t e : TypeId} {ops : Array Oper} {rest : List Oper} {o : Oper} {a : Act} {Q : Exit → Act → World → Prop} {c : Nat}
theorem keyOf_str (hk : P.underlying kt = some .string) {v : Value} {l : Lit} (h : keyOf P kt v = some l) : ∃ s : ByteArray, v = .string s ∧ l = kl s ∧ s.size ≤ maxLen := by
 rw [keyOf_string hk] at h
 unfold mapKey at h
 rw [hk] at h
 split at h <;> simp_all [kl]
theorem wpList_rangeS (hg : o.guard = none) (m : Operand) (hop : o.op = Op.range t m) (hm : a.eval m = .map (some b)) (h : MapS P w kt b f c) (hk : P.underlying kt = some .string) (ht : P.underlying t = some (.map kt e))
  (hK : ∀ w', RngS P w' kt b w.heap.size f (fun k => (f k).isSome) c → w.grownBy w' none → w'.heap.size = w.heap.size + 1 → wpList P ops Q rest (a.put o.dst (.pointer (some ⟨w.heap.size, 0, none⟩))) w') : wpList P ops Q (o :: rest) a w := by
 obtain ⟨D, h, hs, hat, hh⟩ := h
 refine wpList_range_own w hg m t hop kt e (Maps.string_keyed hk) ht heldR b c D hm h fun w' h1 h2 h3 => ?_
 rw [hs] at h1
 exact hK w' ⟨_, D, _, h1, hat, hh, hh⟩ h2 h3
theorem wpList_nextS (hg : o.guard = none) (it : Operand) (hop : o.op = Op.next it false) (hk : P.underlying kt = some .string) (hit : a.eval it = .pointer (some ⟨r, 0, none⟩)) (h : RngS P w kt b r f left cnt)
  (hDone : cnt = 0 → (∀ k, left k = false) → wpList P ops Q rest (a.put o.dst (.tuple #[.bool false])) w)
  (hMore : ∀ (x : ByteArray) (v : Value) (w' : World) (cnt' : Nat), x.size ≤ maxLen → left x = true → f x = some v → RngS P w' kt b r f (fun k => left k && !decide (k = x)) cnt' → cnt' < cnt → w.grownBy w' (some r) → w'.heap.size = w.heap.size →
   (Instr.entry (.pointer (some ⟨r, 0, none⟩))).run P w' = .ok (.tuple #[.string x, v]) w' → wpList P ops Q rest (a.put o.dst (.tuple #[.bool true, .string x, v])) w') : wpList P ops Q (o :: rest) a w := by
 obtain ⟨n, D, L, h, hat, hh, hl⟩ := h
 refine wpList_next_ranges w hg it hop kt (Maps.string_keyed hk) heldR Value.string id (fun key l hkey => by obtain ⟨s, rfl, _⟩ := keyOf_str hk hkey; exact ⟨s, rfl⟩) (fun v y _ => ⟨v, rfl⟩) b r n D L cnt hit h (fun h0 hn => hDone h0 fun k => by rw [← hl k]; exact hn _) ?_
 intro x v l y w' cnt' hkey hlk hv hD hrg hlt hgr hsz hen
 obtain ⟨s, es, rfl, hsz'⟩ := keyOf_str hk hkey
 injection es with es
 subst es
 have hv' : y.1 = .held v := by unfold heldR at hv; injection hv with hv; rw [← hv]; rfl
 have hf : f x = some v := by
  have h1 := hD (.held (.bool true))
  have h2 := hD (.held (.bool false))
  rw [hat, hv'] at h1 h2
  cases hfx : f x with
  | some u => rw [hfx] at h1; injection h1 with h1; rw [h1]
  | none => rw [hfx] at h1 h2; injection h1 with h1; injection h2 with h2; rw [← h1] at h2; cases h2
 refine hMore x v w' cnt' hsz' (by rw [← hl]; exact hlk) hf ⟨n, D, _, hrg, hat, hh, fun k => ?_⟩ hlt hgr hsz hen
 show (L (kl k) && !(kl k).sameKey (kl x)) = _
 rw [hl]
 congr 2
 by_cases hkx : k = x
 ·subst hkx; simp [kl, Lit.sameKey]
 ·have : ¬ k.data.toList = x.data.toList := fun e => hkx (sl_inj e)
  have h3 : ¬ k.data = x.data := fun e => this (by rw [e])
  simp [kl, Lit.sameKey, hkx, h3]
end
end Go.Proofs.YtgnblkmpoigejaaGreatDoor
namespace Go.Proofs.YtgnblkmpoigejaaGreatDoor
open Go.RowKit
structure Lim where
 lo : Nat
 ex : Nat → Prop
def lim (n : Nat) : Lim := ⟨n, fun _ => False⟩
instance : Coe Nat Lim := ⟨lim⟩
def Lim.ok (n : Lim) (k : Nat) : Prop := n.lo ≤ k ∨ n.ex k
theorem Lim.of_le {n : Lim} {k : Nat} (h : n.lo ≤ k) : n.ok k := .inl h
theorem lim_ok {n k : Nat} : (lim n).ok k ↔ n ≤ k := ⟨fun h => h.elim id (fun e => e.elim), fun h => .inl h⟩
theorem lim_sub {a b : Nat} (h : a ≤ b) : ∀ k, (lim b).ok k → (lim a).ok k := fun _ hk => lim_ok.2 (Nat.le_trans h (lim_ok.1 hk))
structure Bel (n : Lim) (w w' : World) : Prop where
 os : w'.os = w.os
 tape : w'.tape = w.tape
 output : w'.output = w.output
 size : w.heap.size ≤ w'.heap.size
 block : ∀ k, ¬ n.ok k → w'.heap[k]? = w.heap[k]?
section
variable {n m : Lim} {a b w w' w'' : World}
theorem Bel.refl (n : Lim) (w : World) : Bel n w w := ⟨rfl, rfl, rfl, Nat.le_refl _, fun _ _ => rfl⟩
theorem Bel.trans (h : Bel n w w') (k : Bel n w' w'') : Bel n w w'' := ⟨k.os.trans h.os, k.tape.trans h.tape, k.output.trans h.output, Nat.le_trans h.size k.size, fun i hi => (k.block i hi).trans (h.block i hi)⟩
theorem Bel.drew (h : Bel n a w) : Bel n a w.drew := ⟨h.os, h.tape, h.output, h.size, h.block⟩
theorem Bel.lower (h : Bel n w w') (hn : ∀ k, n.ok k → m.ok k) : Bel m w w' := ⟨h.os, h.tape, h.output, h.size, fun k hk => h.block k fun e => hk (hn k e)⟩
theorem Bel.of {B : Nat} (h : Below B w w') (hn : n.lo ≤ B) : Bel n w w' := ⟨h.os, h.tape, h.output, h.size, fun k hk => h.block k (Nat.lt_of_not_le fun e => hk (.inl (Nat.le_trans hn e)))⟩
theorem Bel.to {B : Nat} (h : Bel (lim B) w w') : Below B w w' := ⟨h.os, h.tape, h.output, h.size, fun k hk => h.block k fun e => by
 rcases e with e | e
 ·exact absurd (Nat.lt_of_lt_of_le hk e) (Nat.lt_irrefl _)
 ·cases e⟩
theorem Bel.grown {row : Option Nat} (h : Bel n a w) (hg : w.grownBy w' row) (hB : n.lo ≤ w.heap.size) (hr : ∀ k, row = some k → n.ok k) : Bel n a w' := by
 refine h.trans ⟨hg.os, hg.tape, hg.output, hg.size, fun k hk => ?_⟩
 by_cases hs : k < w.heap.size
 ·exact hg.block k hs (fun e => hk (hr k e.symm))
 ·exact absurd (.inl (Nat.le_trans hB (Nat.le_of_not_lt hs))) hk
theorem Bel.setc (h : Bel n a w) {g i : Nat} (hg : n.ok g) (u : Value) : Bel n a (w.setCell ⟨g, i, none⟩ u) :=
 h.trans ⟨rfl, rfl, rfl, by simp [World.setCell], fun k hk => Below.heap_setCell _ _ _ _ (fun e => hk (by rw [e]; exact hg))⟩
end
theorem u8_le (a b : UInt8) : a ≤ b ↔ (a.toNat : Int) ≤ (b.toNat : Int) := by rw [UInt8.le_iff_toNat_le]; omega
theorem u8_eq (a b : UInt8) : a = b ↔ (a.toNat : Int) = (b.toNat : Int) := by rw [← UInt8.toNat_inj]; omega
theorem u8_beq (c d : UInt8) : ((c.toNat : Int) == (d.toNat : Int)) = (c == d) := by
 rw [Bool.eq_iff_iff]; simp only [beq_iff_eq, u8_eq]
theorem byteInfo : ElemInfo Tryz.prog 5 (.int .u8 0) 1 1 := by unfold ElemInfo; kernel_rfl
def eb (c : UInt8) : List Value := [bv c]
theorem eb_map (l : List UInt8) : l.flatMap eb = l.map bv := by induction l <;> simp_all [eb]
theorem eb_one (l : List UInt8) : ∀ u ∈ l.flatMap eb, u.oneCell' = true := by rw [eb_map]; simp [bv, Value.oneCell']
theorem all_take_succ {l : List UInt8} {k : Nat} {c : UInt8} {p : UInt8 → Bool} (hc : l[k]? = some c) (h : (l.take k).all p = true) (hp : p c = true) : (l.take (k + 1)).all p = true := by
 rw [List.take_add_one, hc]; simp_all
theorem all_false {l : List UInt8} {k : Nat} {c : UInt8} {p : UInt8 → Bool} (hc : l[k]? = some c) (hp : p c = false) : l.all p = false := by
 rw [List.all_eq_false]
 exact ⟨c, List.mem_of_getElem? hc, by simp [hp]⟩
theorem take_succ_of {l : List UInt8} {k : Nat} {c : UInt8} (hc : l[k]? = some c) : l.take (k + 1) = l.take k ++ [c] := by
 rw [List.take_add_one, hc]; rfl
section
variable {P : Program} {w : World}
theorem strCells_eb (s : ByteArray) : Lib.strCells s = (sl s).flatMap eb := by
 rw [eb_map]; rfl
theorem wpList_append_text {ops : Array Oper} {rest : List Oper} {o : Oper} {a : Act} {Q : Exit → Act → World → Prop} (hgd : o.guard = none) (x y : Operand) (t u : TypeId)
  (ho : o.op = .call { callee := .builtin .append, args := #[x, y], argTypes := #[t, u] })
  (base : Nat) (e : TypeId) (ht : P.underlying t = some (.slice e)) (hu : P.underlying u = some .string) (hi : ElemInfo P e (.int .u8 0) 1 1)
  (v : Value) (l : List UInt8) (hs : a.eval x = v) (hown : Owns w base e 1 eb v l) (s : ByteArray) (hx : a.eval y = .string s)
  (hb : l.length + s.size ≤ 140737488355328) (hbase : base ≤ w.heap.size)
  (h : ∀ v' w', Owns w' base e 1 eb v' (l ++ sl s) → w.grownBy w' v.ownBlock → wpList P ops Q rest (a.put o.dst v') w') : wpList P ops Q (o :: rest) a w := by
 obtain ⟨i, hi0, hz0, hz1, hz2⟩ := info_parts hi
 refine Lib.wpList_append_own_string w hgd x y t u ho base e i ht hu hi0 hz0 hz1 hz2 v l.length _ hs hown s hx (by simp only [maxLen]; omega) hb hbase (fun v' w' h2 h3 _ => h v' w' ?_ h3)
 unfold Owns
 rw [List.length_append, List.flatMap_append, sl_len, ← strCells_eb]
 exact h2
end
theorem SlR.form {α : Type} {w : World} {en : α → List Value} {v : Value} {xs : List α} (h : SlR w en v xs) : ∃ A c, v = .slice A xs.length c ∧ xs.length ≤ c := by
 obtain ⟨A, c, hv, hc, _⟩ := h
 exact ⟨A, c, hv, hc⟩
theorem Owns.slice {α : Type} {w : World} {base : Nat} {e : TypeId} {size : Nat} {enc : α → List Value} {v : Value} {xs : List α} (h : Owns w base e size enc v xs) : ∃ A cap, v = .slice A xs.length cap := by
 rcases h.form with ⟨h1, h2⟩ | ⟨g, c, h1⟩
 ·subst h2; exact ⟨_, _, h1⟩
 ·exact ⟨_, _, h1⟩
theorem stringInfo : ElemInfo Tryz.prog 9 (.string ByteArray.empty) 1 16 := by unfold ElemInfo; kernel_rfl
set_option maxRecDepth 20000
abbrev ptr (b : Nat) : Value := .pointer (some ⟨b, 0, none⟩)
def okObj (ex : List TypeId) : Obj → Bool
 | .cells _ t _ => !ex.contains t
 | .map _ _ => false
 | _ => true
structure RF (ex : List TypeId) (n0 : Lim) (w w' : World) : Prop where
 bel : Bel n0 w w'
 fr : ∀ (k : Nat) (o : Obj), w.heap[k]? = some o → okObj ex o = true → w'.heap[k]? = some o
section
variable {ex : List TypeId} {n0 : Lim} {w w' w'' : World}
theorem RF.refl (ex : List TypeId) (n0 : Lim) (w : World) : RF ex n0 w w := ⟨Bel.refl _ _, fun _ _ h _ => h⟩
theorem RF.size (h : RF ex n0 w w') : w.heap.size ≤ w'.heap.size := h.bel.size
theorem heap_lt' {w : World} {k : Nat} {o : Obj} (h : w.heap[k]? = some o) : k < w.heap.size := (Array.getElem?_eq_some_iff.1 h).1
theorem RF.grown {row : Option Nat} (h : RF ex n0 w w') (hg : w'.grownBy w'' row) (hn : n0.lo ≤ w'.heap.size) (hrow : ∀ k, row = some k → n0.ok k ∧ ∃ o, w'.heap[k]? = some o ∧ okObj ex o = false) : RF ex n0 w w'' := by
 refine ⟨h.bel.grown hg hn (fun k hk => (hrow k hk).1), fun i o hi ho => ?_⟩
 have h1 := h.fr i o hi ho
 refine (hg.block i (heap_lt' h1) (fun e => ?_)).trans h1
 obtain ⟨_, o', ho', hf⟩ := hrow i e.symm
 rw [h1] at ho'
 cases ho'
 rw [ho] at hf
 cases hf
theorem RF.grownN {row : Option Nat} (h : RF ex n0 w w') (hg : w'.grownBy w'' row) (hn : n0.lo ≤ w'.heap.size) (hrow : ∀ k, row = some k → n0.ok k ∧ (w.heap.size ≤ k ∨ ∃ o, w'.heap[k]? = some o ∧ okObj ex o = false)) : RF ex n0 w w'' := by
 refine ⟨h.bel.grown hg hn (fun k hk => (hrow k hk).1), fun i o hi ho => ?_⟩
 have h1 := h.fr i o hi ho
 refine (hg.block i (heap_lt' h1) (fun e => ?_)).trans h1
 rcases (hrow i e.symm).2 with h2 | ⟨o', ho', hf⟩
 ·have := heap_lt' hi
  omega
 ·rw [h1] at ho'
  cases ho'
  rw [ho] at hf
  cases hf
theorem RF.alloc (h : RF ex n0 w w') (hn : n0.lo ≤ w'.heap.size) (o : Obj) : RF ex n0 w (w'.alloc o) := h.grown (World.grownBy_alloc w' o none) hn (fun _ e => by cases e)
theorem Blk.rf {g : Nat} {t : TypeId} {cs : Array Value} (hb : Blk w g t cs) (h : RF ex n0 w w') (ht : ex.contains t = false) : Blk w' g t cs := h.fr g _ hb (by simp only [okObj, ht]; rfl)
theorem Owns.rf {α : Type} {base : Nat} {e : TypeId} {size : Nat} {enc : α → List Value} {v : Value} {xs : List α} (ho : Owns w base e size enc v xs) (h : RF ex n0 w w') (ht : ex.contains e = false) : Owns w' base e size enc v xs := by
 refine ⟨ho.1, ho.2.imp id ?_⟩
 rintro ⟨g, cap, cur, h1, h2, h3, h4⟩
 exact ⟨g, cap, cur, h1, h2, h.fr g _ h3 (by simp only [okObj, ht]; rfl), h4⟩
end
theorem Blk.keptR {w w' : World} {g : Nat} {t : TypeId} {cs : Array Value} {row : Option Nat} (h : Blk w g t cs) (hg : w.grownBy w' row) (hne : some g ≠ row) : Blk w' g t cs := (hg.block g h.lt hne).trans h
def okG (ex : List TypeId) (mb k : Nat) : Obj → Bool
 | .cells _ t _ => !ex.contains t
 | .map _ _ => !decide (k = mb)
 | _ => true
structure RG (ex : List TypeId) (mb : Nat) (n0 : Lim) (w w' : World) : Prop where
 bel : Bel n0 w w'
 fr : ∀ (k : Nat) (o : Obj), w.heap[k]? = some o → okG ex mb k o = true → w'.heap[k]? = some o
section
variable {ex : List TypeId} {mb : Nat} {n0 : Lim} {w w' w'' : World}
theorem okG_of {k : Nat} {o : Obj} (h : okObj ex o = true) : okG ex mb k o = true := by
 cases o <;> first | exact h | cases h | rfl
theorem RG.toRF (h : RG ex mb n0 w w') : RF ex n0 w w' := ⟨h.bel, fun k o hk ho => h.fr k o hk (okG_of ho)⟩
theorem RG.refl (ex : List TypeId) (mb : Nat) (n0 : Lim) (w : World) : RG ex mb n0 w w := ⟨Bel.refl _ _, fun _ _ h _ => h⟩
theorem RG.trans (h : RG ex mb n0 w w') (k : RG ex mb n0 w' w'') : RG ex mb n0 w w'' := ⟨h.bel.trans k.bel, fun i o hi ho => k.fr i o (h.fr i o hi ho) ho⟩
theorem RG.size (h : RG ex mb n0 w w') : w.heap.size ≤ w'.heap.size := h.bel.size
theorem RG.drew (h : RG ex mb n0 w w') : RG ex mb n0 w w'.drew := ⟨h.bel.drew, h.fr⟩
theorem RG.grownN {row : Option Nat} (h : RG ex mb n0 w w') (hg : w'.grownBy w'' row) (hn : n0.lo ≤ w'.heap.size) (hrow : ∀ k, row = some k → n0.ok k ∧ (w.heap.size ≤ k ∨ ∃ o, w'.heap[k]? = some o ∧ okG ex mb k o = false)) : RG ex mb n0 w w'' := by
 refine ⟨h.bel.grown hg hn (fun k hk => (hrow k hk).1), fun i o hi ho => ?_⟩
 have h1 := h.fr i o hi ho
 refine (hg.block i (heap_lt' h1) (fun e => ?_)).trans h1
 rcases (hrow i e.symm).2 with h2 | ⟨o', ho', hf⟩
 ·have := heap_lt' hi
  omega
 ·rw [h1] at ho'
  cases ho'
  rw [ho] at hf
  cases hf
theorem RG.grown {row : Option Nat} (h : RG ex mb n0 w w') (hg : w'.grownBy w'' row) (hn : n0.lo ≤ w'.heap.size) (hrow : ∀ k, row = some k → n0.ok k ∧ ∃ o, w'.heap[k]? = some o ∧ okG ex mb k o = false) : RG ex mb n0 w w'' :=
 h.grownN hg hn fun k hk => ⟨(hrow k hk).1, .inr (hrow k hk).2⟩
theorem RG.alloc (h : RG ex mb n0 w w') (hn : n0.lo ≤ w'.heap.size) (o : Obj) : RG ex mb n0 w (w'.alloc o) := h.grown (World.grownBy_alloc w' o none) hn (fun _ e => by cases e)
theorem RG.set_ (h : RG ex mb n0 w w') {g i : Nat} {t : TypeId} {cs : Array Value} (hb : Blk w' g t cs) (hn : n0.ok g) (ht : ex.contains t = true) (u : Value) : RG ex mb n0 w (w'.setCell ⟨g, i, none⟩ u) := by
 refine ⟨h.bel.setc hn u, fun k o hk ho => ?_⟩
 have h1 := h.fr k o hk ho
 refine (Below.heap_setCell _ _ _ _ ?_).trans h1
 rintro rfl
 unfold Blk at hb
 rw [h1] at hb
 cases hb
 simp only [okG, ht] at ho
 cases ho
theorem RG.of_below (h : Below w.heap.size w w') (hn : n0.lo ≤ w.heap.size) : RG ex mb n0 w w' := ⟨Bel.of h hn, fun k o hk _ => (h.block k (heap_lt' hk)).trans hk⟩
theorem RG.mono {ex' : List TypeId} (h : RG ex mb n0 w w') (he : ∀ t, ex.contains t = true → ex'.contains t = true) : RG ex' mb n0 w w' :=
 ⟨h.bel, fun k o hk ho => h.fr k o hk (by
  unfold okG at ho ⊢
  split <;> simp_all
  exact fun hc => ho (he _ hc))⟩
end
def Lk (w : World) (a b : Nat) : Prop := w.cell? ⟨a, 3, none⟩ = some (ptr b) ∧ w.cell? ⟨b, 2, none⟩ = some (ptr a)
def Links (w : World) : List Nat → Prop
 | [] => True
 | [_] => True
 | a :: b :: l => Lk w a b ∧ Links w (b :: l)
theorem Links.keep {w w' : World} : ∀ {zs : List Nat}, Links w zs → (∀ a ∈ zs.dropLast, w'.cell? ⟨a, 3, none⟩ = w.cell? ⟨a, 3, none⟩) → (∀ b ∈ zs.tail, w'.cell? ⟨b, 2, none⟩ = w.cell? ⟨b, 2, none⟩) → Links w' zs
 | [], _, _, _ => trivial
 | [_], _, _, _ => trivial
 | a :: b :: l, h, h1, h2 => ⟨⟨(h1 a (by simp)).trans h.1.1, (h2 b (by simp)).trans h.1.2⟩, Links.keep h.2 (fun x hx => h1 x (by simp only [List.dropLast_cons_cons, List.mem_cons]; exact .inr hx)) (fun x hx => h2 x (by simp only [List.tail_cons] at hx ⊢; exact List.mem_cons_of_mem _ hx))⟩
theorem links_app {w : World} (a : Nat) (ys : List Nat) : ∀ xs : List Nat, Links w (xs ++ a :: ys) ↔ Links w (xs ++ [a]) ∧ Links w (a :: ys)
 | [] => by simp [Links]
 | [x] => by
  cases ys with
  | nil => simp [Links]
  | cons y ys => simp [Links, and_assoc]
 | x :: y :: xs => by
  have := links_app (w := w) a ys (y :: xs)
  simp only [List.cons_append, Links] at this ⊢
  rw [this]
  exact and_assoc.symm
theorem list_last (c : Nat) (l : List Nat) : ∃ xs p, c :: l = xs ++ [p] := by
 exact ⟨(c :: l).dropLast, (c :: l).getLast (by simp), (List.dropLast_concat_getLast (by simp)).symm⟩
theorem links_next {w : World} {a b : Nat} {xs ys : List Nat} (h : Links w (xs ++ a :: b :: ys)) : Lk w a b := ((links_app a (b :: ys) xs).1 h).2.1
theorem links_cut {w w' : World} {xs ys : List Nat} {p b q : Nat} (h : Links w (xs ++ p :: b :: q :: ys)) (hp : p ∉ xs) (hpy : p ∉ (q :: ys).dropLast) (hqx : q ∉ (xs ++ [p]).tail) (hqy : q ∉ ys)
  (h1 : w'.cell? ⟨p, 3, none⟩ = some (ptr q)) (h2 : w'.cell? ⟨q, 2, none⟩ = some (ptr p)) (h3 : ∀ a, a ≠ p → w'.cell? ⟨a, 3, none⟩ = w.cell? ⟨a, 3, none⟩) (h4 : ∀ a, a ≠ q → w'.cell? ⟨a, 2, none⟩ = w.cell? ⟨a, 2, none⟩) : Links w' (xs ++ p :: q :: ys) := by
 obtain ⟨g1, g2⟩ := (links_app p (b :: q :: ys) xs).1 h
 refine (links_app p (q :: ys) xs).2 ⟨g1.keep (fun a ha => h3 a ?_) (fun a ha => h4 a ?_), ⟨h1, h2⟩, (g2.2.2 : Links w (q :: ys)).keep (fun a ha => h3 a ?_) (fun a ha => h4 a ?_)⟩
 ·rintro rfl; rw [List.dropLast_concat] at ha; exact hp ha
 ·rintro rfl; exact hqx ha
 ·rintro rfl; exact hpy ha
 ·rintro rfl; exact hqy ha
theorem links_add {w w' : World} {xs : List Nat} {p b c : Nat} (h : Links w (xs ++ p :: [c])) (hp : p ∉ xs) (hc : c ∉ (xs ++ [p]).tail) (hb : b ∉ xs ++ [p])
  (h1 : Lk w' p b) (h2 : Lk w' b c) (h3 : ∀ a, a ≠ p → a ≠ b → w'.cell? ⟨a, 3, none⟩ = w.cell? ⟨a, 3, none⟩) (h4 : ∀ a, a ≠ c → a ≠ b → w'.cell? ⟨a, 2, none⟩ = w.cell? ⟨a, 2, none⟩) : Links w' (xs ++ p :: b :: [c]) := by
 obtain ⟨g1, g2⟩ := (links_app p [c] xs).1 h
 refine (links_app p (b :: [c]) xs).2 ⟨g1.keep (fun a ha => h3 a ?_ ?_) (fun a ha => h4 a ?_ ?_), h1, h2, trivial⟩
 ·rintro rfl; rw [List.dropLast_concat] at ha; exact hp ha
 ·rintro rfl; rw [List.dropLast_concat] at ha; exact hb (List.mem_append_left _ ha)
 ·rintro rfl; exact hc ha
 ·rintro rfl; exact hb (List.mem_of_mem_tail ha)
abbrev Nd := Nat × ByteArray × Int
def atF (ns : List Nd) (k : ByteArray) : Option Value := (ns.find? (fun x => decide (x.2.1 = k))).map fun x => ptr x.1
def NodeB (w : World) (x : Nd) : Prop := ∃ pv nx, Blk w x.1 180 #[.string x.2.1, .int .i64 x.2.2, pv, nx]
def RootB (w : World) (c mb : Nat) : Prop := ∃ pv nx, Blk w c 183 #[.string ByteArray.empty, .int .i64 0, pv, nx, .map (some mb)]
theorem NodeB.set_ {w : World} {x : Nd} (h : NodeB w x) (g i : Nat) (hi : i = 2 ∨ i = 3) (u : Value) : NodeB (w.setCell ⟨g, i, none⟩ u) x := by
 obtain ⟨pv, nx, hb⟩ := h
 by_cases hg : x.1 = g
 ·subst hg
  rcases hi with rfl | rfl
  ·exact ⟨u, nx, hb.set_ 2 u⟩
  ·exact ⟨pv, u, hb.set_ 3 u⟩
 ·exact ⟨pv, nx, hb.far hg u⟩
theorem RootB.set_ {w : World} {c mb : Nat} (h : RootB w c mb) (g i : Nat) (hi : i = 2 ∨ i = 3) (u : Value) : RootB (w.setCell ⟨g, i, none⟩ u) c mb := by
 obtain ⟨pv, nx, hb⟩ := h
 by_cases hg : c = g
 ·subst hg
  rcases hi with rfl | rfl
  ·exact ⟨u, nx, hb.set_ 2 u⟩
  ·exact ⟨pv, u, hb.set_ 3 u⟩
 ·exact ⟨pv, nx, hb.far hg u⟩
theorem NodeB.lt {w : World} {x : Nd} (h : NodeB w x) : x.1 < w.heap.size := by obtain ⟨_, _, hb⟩ := h; exact hb.lt
structure Chn (w : World) (n0 : Lim) (c mb : Nat) (ns : List Nd) : Prop where
 root : RootB w c mb
 node : ∀ x ∈ ns, NodeB w x
 ring : Links w (c :: (ns.map (·.1) ++ [c]))
 nd : (ns.map (·.1)).Nodup
 kd : (ns.map (·.2.1)).Nodup
 mp : MapS Tryz.prog w 9 mb (atF ns) ns.length
 b0 : n0.ok c ∧ n0.ok mb ∧ ∀ x ∈ ns, n0.ok x.1
 hz : n0.lo ≤ w.heap.size
section
variable {w w' : World} {n0 : Lim} {c mb : Nat} {ns : List Nd}
theorem Chn.ne_root (h : Chn w n0 c mb ns) : ∀ x ∈ ns, x.1 ≠ c := by
 intro x hx e
 obtain ⟨_, _, hb⟩ := h.node x hx
 obtain ⟨_, _, hr⟩ := h.root
 rw [e] at hb
 unfold Blk at hb hr
 rw [hr] at hb
 injection hb with hb
 injection hb with _ hb
 revert hb
 decide
theorem Chn.kept {row : Option Nat} (h : Chn w n0 c mb ns) (hg : w.grownBy w' row) (hc : some c ≠ row) (hm : some mb ≠ row) (hn : ∀ x ∈ ns, some x.1 ≠ row) : Chn w' n0 c mb ns := by
 have hcell : ∀ (a : Nat) (i : Nat) (v : Value), (a = c ∨ ∃ x ∈ ns, x.1 = a) → w.cell? ⟨a, i, none⟩ = some v → w'.cell? ⟨a, i, none⟩ = w.cell? ⟨a, i, none⟩ := by
  intro a i v ha hv
  rw [hv]
  refine hg.cell hv ?_
  rcases ha with rfl | ⟨x, hx, rfl⟩
  ·exact hc
  ·exact hn x hx
 refine ⟨?_, fun x hx => ?_, ?_, h.nd, h.kd, h.mp.kept hg hm, h.b0, Nat.le_trans h.hz hg.size⟩
 ·obtain ⟨pv, nx, hb⟩ := h.root
  exact ⟨pv, nx, Blk.keptR hb hg hc⟩
 ·obtain ⟨pv, nx, hb⟩ := h.node x hx
  exact ⟨pv, nx, Blk.keptR hb hg (hn x hx)⟩
 ·refine h.ring.keep (fun a ha => ?_) (fun a ha => ?_)
  ·have : a = c ∨ ∃ x ∈ ns, x.1 = a := by
    have := List.dropLast_subset _ ha
    simp only [List.mem_cons, List.mem_append, List.mem_map, List.not_mem_nil, or_false] at this
    rcases this with h | ⟨x, hx, h⟩ | h
    ·exact .inl h
    ·exact .inr ⟨x, hx, h⟩
    ·exact .inl h
   rcases this with rfl | ⟨x, hx, rfl⟩
   ·obtain ⟨pv, nx, hb⟩ := h.root
    exact hcell _ 3 nx (.inl rfl) (hb.cell 3)
   ·obtain ⟨pv, nx, hb⟩ := h.node x hx
    exact hcell _ 3 nx (.inr ⟨x, hx, rfl⟩) (hb.cell 3)
  ·have : a = c ∨ ∃ x ∈ ns, x.1 = a := by
    simp only [List.tail_cons, List.mem_append, List.mem_map, List.mem_cons, List.not_mem_nil, or_false] at ha
    rcases ha with ⟨x, hx, h⟩ | h
    ·exact .inr ⟨x, hx, h⟩
    ·exact .inl h
   rcases this with rfl | ⟨x, hx, rfl⟩
   ·obtain ⟨pv, nx, hb⟩ := h.root
    exact hcell _ 2 pv (.inl rfl) (hb.cell 2)
   ·obtain ⟨pv, nx, hb⟩ := h.node x hx
    exact hcell _ 2 pv (.inr ⟨x, hx, rfl⟩) (hb.cell 2)
theorem Chn.drew (h : Chn w n0 c mb ns) : Chn w.drew n0 c mb ns := ⟨h.root, h.node, h.ring.keep (fun _ _ => rfl) (fun _ _ => rfl), h.nd, h.kd, h.mp, h.b0, h.hz⟩
theorem Chn.alloc (h : Chn w n0 c mb ns) (o : Obj) : Chn (w.alloc o) n0 c mb ns := h.kept (World.grownBy_alloc w o none) (by simp) (by simp) (fun _ _ => by simp)
theorem Chn.below (h : Chn w n0 c mb ns) (hb : Below w.heap.size w w') : Chn w' n0 c mb ns :=
 h.kept (row := none) ⟨hb.os, hb.tape, hb.output, hb.size, fun k hk _ => hb.block k hk⟩ (by simp) (by simp) (fun _ _ => by simp)
theorem Chn.keptT {row : Option Nat} (h : Chn w n0 c mb ns) (hg : w.grownBy w' row) (hrow : ∀ k, row = some k → ∃ cs t fr, w.heap[k]? = some (.cells cs t fr) ∧ t ≠ 183 ∧ t ≠ 180) : Chn w' n0 c mb ns := by
 refine h.kept hg ?_ ?_ ?_
 ·intro e
  obtain ⟨cs, t, fr, hh, h1, _⟩ := hrow c e.symm
  obtain ⟨_, _, hb⟩ := h.root
  unfold Blk at hb
  rw [hh] at hb
  injection hb with hb
  injection hb with _ hb
  exact h1 hb
 ·intro e
  obtain ⟨cs, t, fr, hh, _⟩ := hrow mb e.symm
  obtain ⟨es, ck, hm⟩ := h.mp.isMapObj
  rw [hm] at hh
  cases hh
 ·intro x hx e
  obtain ⟨cs, t, fr, hh, _, h2⟩ := hrow x.1 e.symm
  obtain ⟨_, _, hb⟩ := h.node x hx
  unfold Blk at hb
  rw [hh] at hb
  injection hb with hb
  injection hb with _ hb
  exact h2 hb
theorem atF_mem {l r : List Nd} {x : Nd} (h : ((l ++ x :: r).map (·.2.1)).Nodup) : atF (l ++ x :: r) x.2.1 = some (ptr x.1) := by
 unfold atF
 have h0 : ∀ y ∈ l, ¬ y.2.1 = x.2.1 := by
  intro y hy
  rw [List.map_append, List.map_cons, List.nodup_append] at h
  exact h.2.2 y.2.1 (List.mem_map.2 ⟨y, hy, rfl⟩) x.2.1 (by simp)
 rw [List.find?_append, List.find?_eq_none.2 (fun y hy => by simp [h0 y hy])]
 simp
theorem atF_none {ns : List Nd} {k : ByteArray} (h : ∀ x ∈ ns, x.2.1 ≠ k) : atF ns k = none := by
 unfold atF
 rw [List.find?_eq_none.2 (fun y hy => by simp [h y hy])]
 rfl
theorem find_split (ns : List Nd) (k : ByteArray) : (∀ x ∈ ns, x.2.1 ≠ k) ∨ ∃ l b s r, ns = l ++ (b, k, s) :: r := by
 by_cases h : ∃ x ∈ ns, x.2.1 = k
 ·obtain ⟨x, hx, rfl⟩ := h
  obtain ⟨l, r, rfl⟩ := List.append_of_mem hx
  exact .inr ⟨l, x.1, x.2.2, r, rfl⟩
 ·exact .inl fun x hx e => h ⟨x, hx, e⟩
end
end Go.Proofs.YtgnblkmpoigejaaGreatDoor
