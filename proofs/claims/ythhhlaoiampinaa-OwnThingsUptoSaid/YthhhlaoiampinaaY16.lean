/- A builder within a book: what its methods leave; frames by blocks. -/
import Derived.Test.YthhhlaoiampinaaY15
import Derived.Test.YthhhlaoiampinaaY12
import Derived.Lib.FrozenHead
import Derived.Shelf.RegionOpenPlain
import Derived.Shelf.SlGeneric
import Derived.Shelf.SlIter.Nil
import Derived.Shelf.SortM.Plain
import Derived.Shelf.SortM.SortNone
import Derived.Ground.GgzProg
import Derived.Ground.SlgmProg
import Derived.Test.YthhhlaoiampinaaProg
import Derived.Test.YthhhlaoiampinaaY0
import Derived.Maps.Own
import Derived.Maps.OwnSet
import Derived.Maps.Keyed
import Derived.StringKeys
import Derived.Test.YthhhlaoiampinaaChecked
import Derived.Laws.BitsAllLaws
import Derived.Deep.QuietTactic
import Derived.BigQuiet
import Derived.IntWalk
namespace Go.Proofs.Ythhhlaoiampinaa
set_option maxRecDepth 20000
open Go.RowKit Go.Shelf
namespace Bk
/-! ### Frames by blocks. -/
structure GS (w w' : World) (S : List Nat) : Prop where
  os : w'.os = w.os
  tape : w'.tape = w.tape
  output : w'.output = w.output
  size : w.heap.size ≤ w'.heap.size
  block : ∀ k < w.heap.size, k ∉ S → w'.heap[k]? = w.heap[k]?
section
variable {w w1 w' : World} {S S' : List Nat}
theorem GS.refl (w : World) (S : List Nat) : GS w w S := ⟨rfl, rfl, rfl, Nat.le_refl _, fun _ _ _ => rfl⟩
theorem GS.trans (h : GS w w1 S) (k : GS w1 w' S') (hs : ∀ j ∈ S', j ∈ S ∨ w.heap.size ≤ j) : GS w w' S :=
  ⟨k.os.trans h.os, k.tape.trans h.tape, k.output.trans h.output, Nat.le_trans h.size k.size, fun j hj hn => (k.block j (Nat.lt_of_lt_of_le hj h.size) (fun hm => (hs j hm).elim hn (by omega))).trans (h.block j hj hn)⟩
theorem GS.same (h : GS w w1 S) (k : GS w1 w' S) : GS w w' S := h.trans k fun _ hj => .inl hj
theorem GS.mono (h : GS w w' S) (hs : ∀ j ∈ S, j ∈ S') : GS w w' S' := ⟨h.os, h.tape, h.output, h.size, fun j hj hn => h.block j hj fun hm => hn (hs j hm)⟩
theorem GS.of_below (h : Below w.heap.size w w') (S : List Nat) : GS w w' S := ⟨h.os, h.tape, h.output, h.size, fun k hk _ => h.block k hk⟩
theorem GS.of_grown {row : Option Nat} (h : w.grownBy w' row) (hr : ∀ j, row = some j → j ∈ S ∨ w.heap.size ≤ j) : GS w w' S :=
  ⟨h.os, h.tape, h.output, h.size, fun k hk hn => h.block k hk fun e => by rcases hr k e.symm with g | g; exact hn g; omega⟩
theorem GS.cell_ (w : World) (a : Addr) (v : Value) (h : a.block ∈ S) : GS w (w.setCell a v) S :=
  GS.of_grown (row := some a.block) ⟨rfl, rfl, rfl, by simp [World.setCell], fun k _ hne => Below.heap_setCell _ _ _ _ (fun e => hne (by rw [e]))⟩ fun j hj => by cases hj; exact .inl h
theorem GS.drew (h : GS w w' S) : GS w w'.drew S := ⟨h.os, h.tape, h.output, h.size, h.block⟩
theorem GS.bel {B : Nat} (h : GS w w' S) (hB : B ≤ w.heap.size) (hs : ∀ j ∈ S, B ≤ j) : Below B w w' :=
  ⟨h.os, h.tape, h.output, h.size, fun k hk => h.block k (by omega) fun hm => by have := hs k hm; omega⟩
theorem Blk.gs {g : Nat} {t : TypeId} {cs : Array Value} (hb : Blk w g t cs) (h : GS w w' S) (hg : g ∉ S) : Blk w' g t cs := (h.block g hb.lt hg).trans hb
theorem grown_gs {row : Option Nat} (h : GS w w' S) (hs : ∀ j ∈ S, row = some j) : w.grownBy w' row := ⟨h.os, h.tape, h.output, h.size, fun k hk hn => h.block k hk fun hm => hn (hs k hm).symm⟩
theorem MapS.gs {P : Program} {kt : TypeId} {b c : Nat} {f : ByteArray → Option Value} (h : MapS P w kt b f c) (hg : GS w w' S) (hb : b ∉ S) : MapS P w' kt b f c := by
  obtain ⟨D, ⟨es, clock, hh, F, hs, hD⟩, r⟩ := h
  exact ⟨D, ⟨es, clock, (hg.block b (Array.getElem?_eq_some_iff.1 hh).1 hb).trans hh, F, hs, hD⟩, r⟩
theorem Owns.gs {α : Type} {base : Nat} {e : TypeId} {size : Nat} {en : α → List Value} {v : Value} {xs : List α} (h : Owns w base e size en v xs) (hg : GS w w' S) (hv : ∀ j, v.ownBlock = some j → j ∉ S) : Owns w' base e size en v xs := by
  refine ⟨h.1, h.2.imp id ?_⟩
  rintro ⟨g, cap, cur, h1, h2, h3, h4⟩
  exact ⟨g, cap, cur, h1, h2, (hg.block g (Array.getElem?_eq_some_iff.1 h3).1 (hv g (by rw [h1]; rfl))).trans h3, h4⟩
theorem rowF_gs {base : Nat} {e : TypeId} {size n : Nat} {v : Value} {xs : List Value} (h : w.ownsRowF base e size v n xs) (hg : GS w w' S) (hv : ∀ j, v.ownBlock = some j → j ∉ S) : w'.ownsRowF base e size v n xs := by
  refine ⟨h.1, h.2.imp id ?_⟩
  rintro ⟨g, cap, cur, fz, h1, h2, h3, h4⟩
  exact ⟨g, cap, cur, fz, h1, h2, (hg.block g (Array.getElem?_eq_some_iff.1 h3).1 (hv g (by rw [h1]; rfl))).trans h3, h4⟩
/-- Whose own block it is still, or a new one. -/
def GN (w : World) (g g' : Option Nat) : Prop := ∀ j, g' = some j → g = some j ∨ w.heap.size ≤ j
theorem GN.refl (w : World) (g : Option Nat) : GN w g g := fun _ h => .inl h
theorem GN.trans {g g1 g2 : Option Nat} (h : GN w g g1) (k : GN w1 g1 g2) (hs : w.heap.size ≤ w1.heap.size) : GN w g g2 := fun j hj => (k j hj).elim (h j) fun hl => .inr (Nat.le_trans hs hl)
end
/-- An append to a row whose head may be frozen: its row is the old one or a new one. -/
theorem run_append_F {P : Program} {w : World} {base n : Nat} {t u ty e : TypeId} {v : Value} {xs : List Value} (ht : P.underlying t = some (.slice e)) (hu : P.underlying u = some .string) (hie : ElemInfo P e (.int .u8 0) 1 1) (hown : w.ownsRowF base e 1 v n xs) (s : ByteArray)
    (hb : n + s.size ≤ 140737488355328) (hbase : base ≤ w.heap.size) :
    ∃ v' w', (Builtin.append_ #[t, u] ty #[v, .string s]).run P w = .ok v' w' ∧ w'.ownsRowF base e 1 v' (n + s.size) (xs ++ Lib.strCells s) ∧ w.grownBy w' v.ownBlock ∧ (v' = .slice none 0 0 ↔ v = .slice none 0 0 ∧ s.size = 0) ∧ GN w v.ownBlock v'.ownBlock := by
  obtain ⟨i, hi, hz, hsize, hby⟩ := info_parts hie
  obtain ⟨v', w', hr, h2, h3, h4⟩ := Lib.run_append_own_stringF (P := P) w base t u ty e i ht hu hi hz hsize hby v n xs hown s (by simp only [maxLen]; omega) hb hbase
  refine ⟨v', w', hr, h2, h3, h4, ?_⟩
  rcases hown.2 with ⟨rfl, rfl⟩ | ⟨g, cap, cur, fz, rfl, hbg, hg, hfz, hnc, hcm, hcs, htake⟩
  · have hx : xs = [] := List.eq_nil_of_length_eq_zero (by simpa using hown.1)
    subst hx
    obtain ⟨v2, w2, hr2, h5, _, _⟩ := Lib.run_append_own_string (P := P) w w.heap.size t u ty e i ht hu hi hz hsize hby (.slice none 0 0) 0 [] (World.ownsRow_nil w w.heap.size e 1) s (by simp only [maxLen]; omega) hb (Nat.le_refl _)
    rw [hr2] at hr
    injection hr with e1 e2
    subst e1
    exact fun j hj => .inr (h5.lt j hj).1
  · have hxl : xs.length = n := by simpa using hown.1
    by_cases hroom : n + s.size ≤ cap
    · have hr2 := Lib.run_append_room_stringF (P := P) w t u ty e i ht hu hi hsize g n cap cur fz hg (by omega) s hroom (by omega)
      rw [hr2] at hr
      injection hr with e1 e2
      subst e1
      exact fun j hj => .inl hj
    · have hr2 := Lib.run_append_grow_string (P := P) w t u ty e i (.int .u8 0) ht hu hi hz ⟨g, 0, none⟩ n cap xs (by rw [hsize]; omega) (hown.cells (g := g) rfl) s (by omega) (by omega) (by rw [hby]; exact growslice_fits (by omega) (by omega))
      rw [hr2] at hr
      injection hr with e1 e2
      subst e1
      refine fun j hj => .inr ?_
      have : w.heap.size = j := by simpa [Value.ownBlock] using hj
      omega
theorem wpList_append_F {P : Program} {w : World} {ops : Array Oper} {rest : List Oper} {o : Oper} {a : Act} {Q : Exit → Act → World → Prop} (hgd : o.guard = none) (x y : Operand) (t u : TypeId)
    (ho : o.op = .call { callee := .builtin .append, args := #[x, y], argTypes := #[t, u] })
    (base : Nat) (e : TypeId) (ht : P.underlying t = some (.slice e)) (hu : P.underlying u = some .string) (hi : ElemInfo P e (.int .u8 0) 1 1)
    (v : Value) (n : Nat) (xs : List Value) (hs : a.eval x = v) (hown : w.ownsRowF base e 1 v n xs) (s : ByteArray) (hx : a.eval y = .string s)
    (hb : n + s.size ≤ 140737488355328) (hbase : base ≤ w.heap.size)
    (h : ∀ v' w', w'.ownsRowF base e 1 v' (n + s.size) (xs ++ Lib.strCells s) → w.grownBy w' v.ownBlock → (v' = .slice none 0 0 ↔ v = .slice none 0 0 ∧ s.size = 0) → GN w v.ownBlock v'.ownBlock → wpList P ops Q rest (a.put o.dst v') w') : wpList P ops Q (o :: rest) a w := by
  refine wpList_plain hgd fun K hK => ?_
  obtain ⟨v', w', hr, h2, h3, h4, h5⟩ := run_append_F (P := P) (ty := o.type) ht hu hi hown s hb hbase
  unfold Oper.wp execOp
  simp only [ho, resolve, invoke, builtin, Sem.run_bind, Sem.run_pure, Result.andThen_ok, List.map_toArray, List.map_cons, List.map_nil, hs, hx, hr]
  exact hK _ _ (h v' w' h2 h3 h4 h5)
/-! ### The builder. -/
theorem bk_lies : liesAt Try.prog Try.prog.depth 122 (4 / Try.prog.cellsOf 122) 2 120 1 = true := by kernel_rfl
set_option maxRecDepth 100000 in
theorem check_used (p : Nat) (w : World) (h0 : w.cell? ⟨p, 2, none⟩ = some (.pointer (some ⟨p, 2, none⟩))) :
    Calls Try.prog 104 #[.pointer (some ⟨p, 2, none⟩)] w fun e w' => e = .returned (.tuple #[]) ∧ w' = w := by
  obtain ⟨j, hj, _⟩ := Option.map_eq_some_iff.1 bx_size
  go_enter Try.func104, Try.ntmps104
  go_wp2
  rw [Lib.run_neq_ptr_same w _ Try.underlying118 hj]
  go_wp2
  go_end0
  exact ⟨rfl, rfl⟩
set_option maxHeartbeats 1000000 in
set_option maxRecDepth 100000 in
theorem check_fresh (p : Nat) (w : World) (h0 : w.cell? ⟨p, 2, none⟩ = some (.pointer none)) (hsh : w.shape? p = some (122, 4)) (hfz : w.frozen? ⟨p, 2, none⟩ = false) :
    Calls Try.prog 104 #[.pointer (some ⟨p, 2, none⟩)] w fun e w' => e = .returned (.tuple #[]) ∧ w' = w.setCell ⟨p, 2, none⟩ (.pointer (some ⟨p, 2, none⟩)) := by
  obtain ⟨j, hj, hjs⟩ := Option.map_eq_some_iff.1 bx_size
  go_enter Try.func104, Try.ntmps104
  go_wp2
  rw [Lib.run_to_unsafe w ⟨p, 2, none⟩ Try.underlying118 Try.underlying186 hj (by rw [hjs]; decide) hsh (show 2 < 4 by decide)]
  simp only [Result.andThen]
  rw [Oper.upon_value]
  go_wp2
  rw [run_callFunc_extern Try.func120 (by kernel_rfl) (by kernel_rfl) (by kernel_rfl) (e := Extern.AbiNoEscape.same) (by kernel_rfl)]
  rw [Lib.run_noEscape]
  simp only [Result.andThen]
  rw [Oper.upon_value]
  go_wp2
  rw [Lib.run_from_unsafe w ⟨p, 2, none⟩ Try.underlying186 Try.underlying118 hj hsh bk_lies]
  simp only [Result.andThen]
  rw [Oper.upon_value]
  go_wp2
  go_end0
  exact ⟨rfl, rfl⟩
/-- The builder's two cells within a book: never used, or at home. -/
def atHome (p : Nat) (a : Value) : Prop := a = .pointer none ∨ a = .pointer (some ⟨p, 2, none⟩)
theorem check_any (p : Nat) (m0 m1 a v : Value) (w : World) (h : Blk w p 122 #[m0, m1, a, v]) (ha : atHome p a) :
    Calls Try.prog 104 #[.pointer (some ⟨p, 2, none⟩)] w fun e w' => e = .returned (.tuple #[]) ∧ Blk w' p 122 #[m0, m1, .pointer (some ⟨p, 2, none⟩), v] ∧ GS w w' [p] := by
  rcases ha with rfl | rfl
  · refine (check_fresh p w (h.cell 2) (by unfold Blk at h; simp [World.shape?, h]) (h.frozen 2)).mono ?_
    rintro e w' ⟨rfl, rfl⟩
    exact ⟨rfl, h.set_ 2 _, GS.cell_ w _ _ (by simp)⟩
  · refine (check_used p w (h.cell 2)).mono ?_
    rintro e w' ⟨rfl, rfl⟩
    exact ⟨rfl, h, GS.refl _ _⟩
theorem rowF_ne {w : World} {base n p : Nat} {v : Value} {xs : List Value} {cs : Array Value} (h : w.ownsRowF base 5 1 v n xs) (hb : Blk w p 122 cs) : v.ownBlock ≠ some p := by
  rcases h.2 with ⟨rfl, _⟩ | ⟨g, cap, cur, fz, rfl, _, hh, _⟩
  · simp [Value.ownBlock]
  · intro e
    have : g = p := by simpa [Value.ownBlock] using e
    subst this
    unfold Blk at hb
    rw [hh] at hb
    injection hb with hb
    injection hb with _ h2
    revert h2
    decide
set_option maxHeartbeats 1000000 in
set_option maxRecDepth 100000 in
theorem writeK_any (n0 p : Nat) (m0 m1 a v : Value) (l : List UInt8) (s : ByteArray) (w : World) (h : Blk w p 122 #[m0, m1, a, v]) (ha : atHome p a) (ho : w.ownsRowF n0 5 1 v l.length (Lib.byteCells l)) (hn : n0 ≤ w.heap.size) (hlen : l.length + s.size ≤ 140737488355328) :
    Calls Try.prog 77 #[.pointer (some ⟨p, 2, none⟩), .string s] w fun e w' => e = .returned (.tuple #[.int .i64 s.size, .nilIface]) ∧
      ∃ v', Blk w' p 122 #[m0, m1, .pointer (some ⟨p, 2, none⟩), v'] ∧ w'.ownsRowF n0 5 1 v' (l ++ sl s).length (Lib.byteCells (l ++ sl s)) ∧ GS w w' (p :: v.ownBlock.toList) ∧ GN w v.ownBlock v'.ownBlock ∧ (l ++ sl s = [] → v = .slice none 0 0 → v' = .slice none 0 0) := by
  go_enter Try.func77, Try.ntmps77
  go_wp2_with fail
  refine (check_any p m0 m1 a v _ h ha).mono ?_
  rintro e w1 ⟨rfl, h1, g1⟩
  have hne := rowF_ne ho h
  have ho1 := rowF_gs ho g1 (fun j hj hm => hne (by rw [hj, List.mem_singleton.1 hm]))
  have c2 := h1.cell 2
  have c3 := h1.cell 3
  have HO := Lib.hid ho1
  have HB := Lib.hid h1
  have hs1 := g1.size
  have HG1 := Lib.hid g1
  have hne1 := rowF_ne ho1 h1
  clear ho ho1 h1 g1 h
  go_wp2_with (at_builtin; go_must (refine wpList_append_F rfl (.tmp 12) (.tmp 13) _ _ rfl n0 5 Try.underlying110 Try.underlying9 byteInfo v l.length (Lib.byteCells l) rfl HO.out s rfl hlen (by omega) ?_))
  intro v' w2 hown hg2 hnil hgn
  have hb2 := Blk.keptR HB.out hg2 (fun e => hne1 e.symm)
  have hg3 : GS w1 w2 v.ownBlock.toList := GS.of_grown hg2 (fun j hj => .inl (by simp [hj]))
  have c3' := hb2.cell 3
  have f3' := hb2.frozen 3
  obtain ⟨ao, n', cap, rfl⟩ : ∃ ao n' cap, v' = .slice ao n' cap := by
    rcases hown.2 with ⟨hv, _⟩ | ⟨g, cap, cur, fz, hv, _⟩
    · exact ⟨_, _, _, hv⟩
    · exact ⟨_, _, _, hv⟩
  have hl1 : (l ++ sl s).length = l.length + s.size := by rw [List.length_append, sl_len]
  have hl2 : Lib.byteCells (l ++ sl s) = Lib.byteCells l ++ Lib.strCells s := by simp [Lib.byteCells, Lib.strCells, sl]
  rw [← hl1, ← hl2] at hown
  have HOW := Lib.hid hown
  have HB2 := Lib.hid hb2
  have HG3 := Lib.hid hg3
  have HNIL := Lib.hid hnil
  have HG2 := Lib.hid hg2
  have hne2 := rowF_ne hown hb2
  have HL1 := Lib.hid hl1
  clear hown hb2 hg3 hnil hg2 hl1 hl2 c2 c3
  go_wp2_with fail
  go_ret2
  have g4 := GS.cell_ w2 ⟨p, 3, none⟩ (.slice ao n' cap) (S := p :: v.ownBlock.toList) (by simp)
  have g12 : GS w w2 (p :: v.ownBlock.toList) := (HG1.out.mono (by simp)).trans HG3.out (fun j hj => .inl (List.mem_cons_of_mem _ hj))
  refine ⟨rfl, _, HB2.out.set_ 3 _, rowF_gs HOW.out (GS.cell_ w2 ⟨p, 3, none⟩ _ (S := [p]) (by simp)) (fun j hj hm => hne2 (by rw [hj, List.mem_singleton.1 hm])), g12.same g4, ?_, ?_⟩
  · exact fun j hj => (hgn j hj).imp id (fun h => Nat.le_trans hs1 h)
  · intro hnil0 hv0
    have hsz : s.size = 0 := by
      have := HL1.out
      rw [hnil0] at this
      simp at this
      omega
    exact HNIL.out.2 ⟨hv0, by first | exact hsz | exact empty_of_size s hsz⟩
theorem freeze_rowF {w : World} {base g cap n : Nat} {e : TypeId} {xs : List Value} (h : w.ownsRowF base e 1 (.slice (some ⟨g, 0, none⟩) n cap) n xs) : (w.freeze ⟨g, 0, none⟩ n).ownsRowF base e 1 (.slice (some ⟨g, 0, none⟩) n cap) n xs := by
  unfold World.freeze
  split
  · exact h
  · refine ⟨h.1, ?_⟩
    rcases h.2 with ⟨hv, _⟩ | ⟨g', cap', cur, fz, hv, hbg, hg, hfz, rest⟩
    · cases hv
    · injection hv with ha _ hcap
      injection ha with ha
      injection ha with hgg _ _
      subst hgg
      subst hcap
      obtain ⟨lo, hi⟩ := fz
      refine .inr ⟨g, _, cur, (if lo == hi then (0, 0 + n) else (min lo 0, max hi (0 + n))), rfl, hbg, ?_, ?_, rest⟩
      · simp [Array.getElem?_modify, hg]
      · simp only at hfz
        split <;> simp <;> omega
theorem gs_freeze (w : World) (g n : Nat) : GS w (w.freeze ⟨g, 0, none⟩ n) [g] := by
  unfold World.freeze
  split
  · exact GS.refl _ _
  · exact ⟨rfl, rfl, rfl, by simp, fun k hk hn => by
      simp only [Array.getElem?_modify]
      rw [if_neg (fun e => hn (by rw [← e]; simp))]⟩
set_option maxHeartbeats 2000000 in
set_option maxRecDepth 100000 in
theorem string_nil (p : Nat) (m0 m1 a : Value) (w : World) (h : Blk w p 122 #[m0, m1, a, .slice none 0 0]) :
    Calls Try.prog 78 #[.pointer (some ⟨p, 2, none⟩)] w fun e w' => e = .returned (.string ⟨#[]⟩) ∧ w' = w.drew := by
  have hUS : ∀ (W : World) (q : Option Addr), (Builtin.unsafeString_ #[167, 3] 9 #[.pointer q, .int .i64 0]).run Try.prog W = .ok (.string .empty) W := fun W q => Lib.run_unsafeString_none W _ _ _ q
  have c1 : w.drew.cell? ⟨p, 3, none⟩ = some (.slice none 0 0) := h.drew.cell 3
  have hSD : (Builtin.unsafeSliceData_ #[110] 167 #[.slice none 0 0]).run Try.prog w.drew = .ok (.pointer none) w.drew := rfl
  clear h
  go_enter Try.func78, Try.ntmps78
  go_wp2
  refine wp_region_seq [(true, 0), (true, 1), (true, 2), (true, 3), (true, 5), (true, 6), (true, 7), (true, 8), (true, 9), (false, 4), (false, 10), (true, 11)] (fun w' => w' = w.drew) (by kernel_rfl) (by kernel_rfl) (fun _ _ _ _ _ h => h) (by kernel_rfl) (by kernel_rfl) ?_ ?_
  · rfl
  iterate 9 (first | (apply seqH_skip; (focus (simp only [List.getElem?_toArray, List.getElem?_cons_succ, List.getElem?_cons_zero]; rfl)); (focus rfl); simp only [Act.put, List.setIfInBounds_toArray, List.set_cons_zero, List.set_cons_succ]) | (apply seqH_take; (focus (simp only [List.getElem?_toArray, List.getElem?_cons_succ, List.getElem?_cons_zero]; rfl)); (focus rfl); (focus (intro w' hS; subst hS; first | (go_simp; rfl) | (go_simp; done))); simp only [Act.put, List.setIfInBounds_toArray, List.set_cons_zero, List.set_cons_succ]) | (apply seqH_pass; (focus (simp only [List.getElem?_toArray, List.getElem?_cons_succ, List.getElem?_cons_zero]; rfl)); (focus rfl); (focus assumption); simp only [Act.put, List.setIfInBounds_toArray, List.set_cons_zero, List.set_cons_succ]))
  apply seqH_eff
  (focus (simp only [List.getElem?_toArray, List.getElem?_cons_succ, List.getElem?_cons_zero]; rfl))
  (focus rfl)
  intro K hK
  go_simp
  refine hK _ _ ⟨rfl, ?_⟩
  clear hK K
  apply seqH_eff
  (focus (simp only [List.getElem?_toArray, List.getElem?_cons_succ, List.getElem?_cons_zero]; rfl))
  (focus rfl)
  intro K hK
  go_simp
  refine hK _ _ ⟨rfl, ?_⟩
  clear hK K
  iterate 1 (first | (apply seqH_skip; (focus (simp only [List.getElem?_toArray, List.getElem?_cons_succ, List.getElem?_cons_zero]; rfl)); (focus rfl); simp only [Act.put, List.setIfInBounds_toArray, List.set_cons_zero, List.set_cons_succ]) | (apply seqH_take; (focus (simp only [List.getElem?_toArray, List.getElem?_cons_succ, List.getElem?_cons_zero]; rfl)); (focus rfl); (focus (intro w' hS; subst hS; first | (go_simp; rfl) | (go_simp; done))); simp only [Act.put, List.setIfInBounds_toArray, List.set_cons_zero, List.set_cons_succ]) | (apply seqH_pass; (focus (simp only [List.getElem?_toArray, List.getElem?_cons_succ, List.getElem?_cons_zero]; rfl)); (focus rfl); (focus assumption); simp only [Act.put, List.setIfInBounds_toArray, List.set_cons_zero, List.set_cons_succ]))
  refine seqH_nil ?_
  go_wp2
  go_ret
  exact ⟨rfl, rfl⟩
set_option maxHeartbeats 2000000 in
set_option maxRecDepth 100000 in
theorem string_some (n0 p : Nat) (m0 m1 a v : Value) (l : List UInt8) (w : World) (h : Blk w p 122 #[m0, m1, a, v]) (ho : w.ownsRowF n0 5 1 v l.length (Lib.byteCells l)) (h0 : l ≠ []) :
    Calls Try.prog 78 #[.pointer (some ⟨p, 2, none⟩)] w fun e w' => e = .returned (.string ⟨l.toArray⟩) ∧ ∃ g cap, v = .slice (some ⟨g, 0, none⟩) l.length cap ∧ w' = w.drew.freeze ⟨g, 0, none⟩ l.length := by
  have hl0 : l.length ≠ 0 := by simpa using h0
  obtain ⟨g, cap, cur, fz, rfl, hbg, hg, hfz, hnc, hcm, hcs, htake⟩ : ∃ g cap cur fz, v = .slice (some ⟨g, 0, none⟩) l.length cap ∧ n0 ≤ g ∧ w.heap[g]? = some (.cells cur 5 fz) ∧ fz.2 ≤ l.length * 1 ∧ l.length ≤ cap ∧ cap ≤ maxLen ∧ cur.size = cap * 1 ∧ cur.toList.take (l.length * 1) = Lib.byteCells l := by
    rcases ho.2 with ⟨_, hz⟩ | ⟨g, cap, cur, fz, hv, r⟩
    · exact absurd hz hl0
    · exact ⟨g, cap, cur, fz, hv, r⟩
  have c1 : w.drew.cell? ⟨p, 3, none⟩ = some (.slice (some ⟨g, 0, none⟩) l.length cap) := h.drew.cell 3
  have hSD : (Builtin.unsafeSliceData_ #[110] 167 #[.slice (some ⟨g, 0, none⟩) l.length cap]).run Try.prog w.drew = .ok (.pointer (some ⟨g, 0, none⟩)) w.drew :=
    Lib.run_unsafeSliceData_row _ _ _ _ _ _ (by omega)
  have hUS : (Builtin.unsafeString_ #[167, 3] 9 #[.pointer (some ⟨g, 0, none⟩), .int .i64 l.length]).run Try.prog w.drew = .ok (.string ⟨l.toArray⟩) (w.drew.freeze ⟨g, 0, none⟩ l.length) := by
    refine Lib.run_unsafeString_row w.drew 167 3 9 5 Try.underlying167 (by kernel_rfl) g cur.size (by have hg' : w.drew.heap[g]? = some (.cells cur 5 fz) := hg; simp [World.shape?, hg']) l h0 (by omega) (by unfold maxLen at hcm; omega) ?_
    intro j x hx
    have := ho.cells (g := g) rfl j (.int .u8 x.toNat) (by simp [Lib.byteCells, hx])
    exact this
  have HC : Hid ((w.drew.freeze ⟨g, 0, none⟩ l.length).cell? ⟨p, 3, none⟩ = some (.slice (some ⟨g, 0, none⟩) l.length cap)) := (Blk.gs h.drew (gs_freeze w.drew g l.length) (fun hm => rowF_ne ho h (by rw [List.mem_singleton.1 hm]; rfl))).cell 3
  clear h ho
  go_enter Try.func78, Try.ntmps78
  go_wp2
  refine wp_region_seq [(true, 0), (true, 1), (true, 2), (true, 3), (true, 5), (true, 6), (true, 7), (true, 8), (true, 9), (false, 4), (false, 10), (true, 11)] (fun w' => w'.cell? ⟨p, 3, none⟩ = some (.slice (some ⟨g, 0, none⟩) l.length cap)) (by kernel_rfl) (by kernel_rfl) (fun _ _ _ _ _ h => h) (by kernel_rfl) (by kernel_rfl) ?_ ?_
  · exact c1
  iterate 9 (first | (apply seqH_skip; (focus (simp only [List.getElem?_toArray, List.getElem?_cons_succ, List.getElem?_cons_zero]; rfl)); (focus rfl); simp only [Act.put, List.setIfInBounds_toArray, List.set_cons_zero, List.set_cons_succ]) | (apply seqH_take; (focus (simp only [List.getElem?_toArray, List.getElem?_cons_succ, List.getElem?_cons_zero]; rfl)); (focus rfl); (focus (intro w' hS; skip; first | (go_simp; rfl) | (go_simp; done))); simp only [Act.put, List.setIfInBounds_toArray, List.set_cons_zero, List.set_cons_succ]) | (apply seqH_pass; (focus (simp only [List.getElem?_toArray, List.getElem?_cons_succ, List.getElem?_cons_zero]; rfl)); (focus rfl); (focus assumption); simp only [Act.put, List.setIfInBounds_toArray, List.set_cons_zero, List.set_cons_succ]))
  apply seqH_eff
  (focus (simp only [List.getElem?_toArray, List.getElem?_cons_succ, List.getElem?_cons_zero]; rfl))
  (focus rfl)
  intro K hK
  go_simp
  refine hK _ _ ⟨c1, ?_⟩
  clear hK K
  apply seqH_eff
  (focus (simp only [List.getElem?_toArray, List.getElem?_cons_succ, List.getElem?_cons_zero]; rfl))
  (focus rfl)
  intro K hK
  go_simp
  refine hK _ _ ⟨HC.out, ?_⟩
  clear hK K
  iterate 1 (first | (apply seqH_skip; (focus (simp only [List.getElem?_toArray, List.getElem?_cons_succ, List.getElem?_cons_zero]; rfl)); (focus rfl); simp only [Act.put, List.setIfInBounds_toArray, List.set_cons_zero, List.set_cons_succ]) | (apply seqH_take; (focus (simp only [List.getElem?_toArray, List.getElem?_cons_succ, List.getElem?_cons_zero]; rfl)); (focus rfl); (focus (intro w' hS; skip; first | (go_simp; rfl) | (go_simp; done))); simp only [Act.put, List.setIfInBounds_toArray, List.set_cons_zero, List.set_cons_succ]) | (apply seqH_pass; (focus (simp only [List.getElem?_toArray, List.getElem?_cons_succ, List.getElem?_cons_zero]; rfl)); (focus rfl); (focus assumption); simp only [Act.put, List.setIfInBounds_toArray, List.set_cons_zero, List.set_cons_succ]))
  refine seqH_nil ?_
  go_wp2
  go_ret
  exact ⟨rfl, g, cap, rfl, rfl⟩
/-- String, whatever the builder holds (without a byte: nothing was written). -/
theorem string_any' (n0 p : Nat) (m0 m1 a v : Value) (l : List UInt8) (w : World) (h : Blk w p 122 #[m0, m1, a, v]) (ho : w.ownsRowF n0 5 1 v l.length (Lib.byteCells l)) (hnil : l = [] → v = .slice none 0 0) :
    Calls Try.prog 78 #[.pointer (some ⟨p, 2, none⟩)] w fun e w' => e = .returned (.string (mkS l)) ∧ Blk w' p 122 #[m0, m1, a, v] ∧ w'.ownsRowF n0 5 1 v l.length (Lib.byteCells l) ∧ GS w w' v.ownBlock.toList := by
  by_cases h0 : l = []
  · subst h0
    obtain rfl := hnil rfl
    refine (string_nil p m0 m1 a w h).mono ?_
    rintro e w' ⟨rfl, rfl⟩
    exact ⟨rfl, h.drew, ho, GS.drew (GS.refl _ _)⟩
  · refine (string_some n0 p m0 m1 a v l w h ho h0).mono ?_
    rintro e w' ⟨rfl, g, cap, rfl, rfl⟩
    have hne := rowF_ne ho h
    have hgs : GS w (w.drew.freeze ⟨g, 0, none⟩ l.length) [g] := (GS.drew (GS.refl _ _)).same (gs_freeze w.drew g l.length)
    refine ⟨rfl, Blk.gs h hgs (fun hm => hne (by rw [List.mem_singleton.1 hm]; rfl)), ?_, hgs⟩
    exact freeze_rowF (w := w.drew) ho
end Bk
end Go.Proofs.Ythhhlaoiampinaa
namespace Go.Proofs
open Go.Shelf
def Try.keys65_ren : Go.Shelf.Ren := ⟨fun | 7 => 65 | 10 => 90 | n => n, fun | 23 => 103 | 26 => 9 | 3 => 9 | 28 => 116 | 0 => 0 | 27 => 111 | 33 => 98 | 4 => 4 | n => n, fun | n => n⟩
theorem Try.keys65 : Go.Proofs.SlLaysZ.n7 Try.prog Try.keys65_ren := {
  mixed := by kernel_rfl
  f7 := ⟨Try.f65.name, by decide, Try.func65.trans (congrArg some (by kernel_rfl))⟩
  f10 := ⟨Try.f90.name, by decide, Try.func90.trans (congrArg some (by kernel_rfl))⟩
  t0 := Try.underlying0
  a0 := Try.isAgg0
  z0 := Try.sizeOf0
  v0 := Try.zeroValue0
  t4 := Try.underlying4
  a4 := Try.isAgg4
  z4 := Try.sizeOf4
  v4 := Try.zeroValue4
  t23 := Try.underlying103
  a23 := Try.isAgg103
  z23 := Try.sizeOf103
  v23 := Try.zeroValue103
  t26 := Try.underlying9
  a26 := Try.isAgg9
  z26 := Try.sizeOf9
  v26 := Try.zeroValue9
  t27 := Try.underlying111
  a27 := Try.isAgg111
  z27 := Try.sizeOf111
  v27 := Try.zeroValue111
  t28 := Try.underlying116
  a28 := Try.isAgg116
  z28 := Try.sizeOf116
  v28 := Try.zeroValue116
  t33 := Try.underlying98
  a33 := Try.isAgg98
  z33 := Try.sizeOf98
  v33 := Try.zeroValue98 }
def Try.sorted64_ren : Go.Shelf.Ren := ⟨fun | 6 => 64 | 8 => 88 | 9 => 89 | 11 => 111 | 13 => 68 | 12 => 112 | 23 => 99 | 24 => 100 | 14 => 125 | 15 => 126 | 16 => 127 | 17 => 128 | 18 => 129 | 19 => 130 | 20 => 131 | 21 => 132 | 22 => 133 | 25 => 138 | 26 => 114 | 27 => 115 | 28 => 139 | 29 => 140 | 30 => 141 | 31 => 143 | n => n, fun | 26 => 9 | 28 => 116 | 24 => 42 | 0 => 0 | 3 => 3 | 37 => 126 | 48 => 136 | 50 => 164 | 4 => 4 | 40 => 157 | 39 => 156 | 45 => 142 | 5 => 5 | 9 => 9 | 51 => 179 | 55 => 183 | 57 => 205 | 58 => 206 | 33 => 98 | n => n, fun | n => n⟩
theorem Try.sorted64 : Go.Proofs.SlLaysZ.n6 Try.prog Try.sorted64_ren := {
  mixed := by kernel_rfl
  f6 := ⟨Try.f64.name, by decide, Try.func64.trans (congrArg some (by kernel_rfl))⟩
  f8 := ⟨Try.f88.name, by decide, Try.func88.trans (congrArg some (by kernel_rfl))⟩
  f11 := ⟨Try.f111.name, by decide, Try.func111.trans (congrArg some (by kernel_rfl))⟩
  t0 := Try.underlying0
  a0 := Try.isAgg0
  z0 := Try.sizeOf0
  v0 := Try.zeroValue0
  t24 := Try.underlying42
  a24 := Try.isAgg42
  z24 := Try.sizeOf42
  v24 := Try.zeroValue42
  t26 := Try.underlying9
  a26 := Try.isAgg9
  z26 := Try.sizeOf9
  v26 := Try.zeroValue9
  t28 := Try.underlying116
  a28 := Try.isAgg116
  z28 := Try.sizeOf116
  v28 := Try.zeroValue116
  i26 := by kernel_rfl }
def Try.sort89_ren : Go.Shelf.Ren := ⟨fun | 6 => 89 | 8 => 68 | 9 => 112 | 19 => 99 | 20 => 100 | 21 => 125 | 22 => 126 | 23 => 127 | 24 => 128 | 25 => 129 | 26 => 130 | 27 => 131 | 28 => 132 | 29 => 133 | 36 => 138 | 31 => 114 | 32 => 115 | 37 => 139 | 38 => 140 | 39 => 141 | 41 => 143 | n => n, fun | 27 => 42 | 29 => 9 | 3 => 3 | 32 => 126 | 26 => 42 | 0 => 0 | 44 => 136 | 46 => 164 | 4 => 4 | 36 => 157 | 35 => 156 | 41 => 142 | 5 => 5 | 9 => 9 | 53 => 179 | 57 => 183 | 63 => 205 | 64 => 206 | n => n, fun | n => n⟩
theorem Try.sort89 : Go.Proofs.SlLaysM.n6 Try.prog Try.sort89_ren := {
  mixed := by kernel_rfl
  f6 := ⟨Try.f89.name, by decide, Try.func89.trans (congrArg some (by kernel_rfl))⟩
  f8 := Try.func68.trans (congrArg some (by kernel_rfl))
  f9 := ⟨Try.f112.name, by decide, Try.func112.trans (congrArg some (by kernel_rfl))⟩
  f19 := Try.func99.trans (congrArg some (by kernel_rfl))
  f20 := Try.func100.trans (congrArg some (by kernel_rfl))
  f21 := ⟨Try.f125.name, by decide, Try.func125.trans (congrArg some (by kernel_rfl))⟩
  f22 := ⟨Try.f126.name, by decide, Try.func126.trans (congrArg some (by kernel_rfl))⟩
  f23 := ⟨Try.f127.name, by decide, Try.func127.trans (congrArg some (by kernel_rfl))⟩
  f24 := ⟨Try.f128.name, by decide, Try.func128.trans (congrArg some (by kernel_rfl))⟩
  f25 := ⟨Try.f129.name, by decide, Try.func129.trans (congrArg some (by kernel_rfl))⟩
  f26 := ⟨Try.f130.name, by decide, Try.func130.trans (congrArg some (by kernel_rfl))⟩
  f27 := ⟨Try.f131.name, by decide, Try.func131.trans (congrArg some (by kernel_rfl))⟩
  f28 := ⟨Try.f132.name, by decide, Try.func132.trans (congrArg some (by kernel_rfl))⟩
  f29 := ⟨Try.f133.name, by decide, Try.func133.trans (congrArg some (by kernel_rfl))⟩
  f31 := Try.func114.trans (congrArg some (by kernel_rfl))
  f32 := Try.func115.trans (congrArg some (by kernel_rfl))
  f36 := ⟨Try.f138.name, by decide, Try.func138.trans (congrArg some (by kernel_rfl))⟩
  f37 := ⟨Try.f139.name, by decide, Try.func139.trans (congrArg some (by kernel_rfl))⟩
  f38 := ⟨Try.f140.name, by decide, Try.func140.trans (congrArg some (by kernel_rfl))⟩
  f39 := ⟨Try.f141.name, by decide, Try.func141.trans (congrArg some (by kernel_rfl))⟩
  f41 := ⟨Try.f143.name, by decide, Try.func143.trans (congrArg some (by kernel_rfl))⟩
  t0 := Try.underlying0
  a0 := Try.isAgg0
  z0 := Try.sizeOf0
  v0 := Try.zeroValue0
  t3 := Try.underlying3
  a3 := Try.isAgg3
  z3 := Try.sizeOf3
  v3 := Try.zeroValue3
  t4 := Try.underlying4
  a4 := Try.isAgg4
  z4 := Try.sizeOf4
  v4 := Try.zeroValue4
  t5 := Try.underlying5
  a5 := Try.isAgg5
  z5 := Try.sizeOf5
  v5 := Try.zeroValue5
  t9 := Try.underlying9
  a9 := Try.isAgg9
  z9 := Try.sizeOf9
  v9 := Try.zeroValue9
  t26 := Try.underlying42
  a26 := Try.isAgg42
  z26 := Try.sizeOf42
  v26 := Try.zeroValue42
  t27 := Try.underlying42
  a27 := Try.isAgg42
  z27 := Try.sizeOf42
  v27 := Try.zeroValue42
  t29 := Try.underlying9
  a29 := Try.isAgg9
  z29 := Try.sizeOf9
  v29 := Try.zeroValue9
  t32 := Try.underlying126
  a32 := Try.isAgg126
  z32 := Try.sizeOf126
  v32 := Try.zeroValue126
  t35 := Try.underlying156
  a35 := Try.isAgg156
  z35 := Try.sizeOf156
  v35 := Try.zeroValue156
  t36 := Try.underlying157
  a36 := Try.isAgg157
  z36 := Try.sizeOf157
  v36 := Try.zeroValue157
  t41 := Try.underlying142
  a41 := Try.isAgg142
  z41 := Try.sizeOf142
  v41 := Try.zeroValue142
  t44 := Try.underlying136
  a44 := Try.isAgg136
  z44 := Try.sizeOf136
  v44 := Try.zeroValue136
  t46 := Try.underlying164
  a46 := Try.isAgg164
  z46 := Try.sizeOf164
  v46 := Try.zeroValue164
  t53 := Try.underlying179
  a53 := Try.isAgg179
  z53 := Try.sizeOf179
  v53 := Try.zeroValue179
  t57 := Try.underlying183
  a57 := Try.isAgg183
  z57 := Try.sizeOf183
  v57 := Try.zeroValue183
  t63 := Try.underlying205
  a63 := Try.isAgg205
  z63 := Try.sizeOf205
  v63 := Try.zeroValue205
  t64 := Try.underlying206
  a64 := Try.isAgg206
  z64 := Try.sizeOf206
  v64 := Try.zeroValue206 }
open Go.RowKit Go.Maps Go.Sort in
theorem Try.sorts64 (m : Nat) : AnyZ.SortsIn Try.prog Try.sorted64_ren Fence.wide m :=
  ⟨fun blk off cap ss W hH hblk hsz => callsIn_wide.2 (AnyM.slices_Sort_string Try.sort89 blk off cap ss W hH hblk hsz),
   fun p cap W => callsIn_wide.2 (AnyM.slices_Sort_string_none Try.sort89 p cap W)⟩
open Go.RowKit Go.Maps Go.Sort in
theorem Try.maps_Keys_65 (mb : Option Nat) (W : World) : CallsIn Fence.wide 5 Try.prog 65 #[.map mb] W fun e w' => e = .returned (.func (.func 90) #[] #[.pointer (some ⟨W.heap.size, 0, none⟩)]) ∧ w' = W.alloc (.cells #[.map mb] 103) :=
  AnyZ.keys_in Try.keys65 Fence.wide 5 trivial rfl mb W
open Go.RowKit Go.Maps Go.Sort in
theorem Try.slices_Sorted_keys_64_65 {H : Type} (b nn : Nat) (D0 : DataW H) (R : Value → Option (DataW H × List MemPlace)) (w : World) (hown : w.ownsMap Try.prog 9 R b nn D0) (hmax : Maps.size D0 ≤ maxLen) (hbytes : Maps.size D0 * 16 ≤ 140737488355328) :
    CallsIn Fence.wide 5 Try.prog 64 #[.func (.func 90) #[] #[.pointer (some ⟨w.heap.size, 0, none⟩)]] (w.alloc (.cells #[.map (some b)] 103)) fun e w' => ∃ (v : Value) (ss : List (List UInt8)), e = .returned v ∧ ss.Perm (strKeys D0) ∧
      w'.ownsRow (w.alloc (.cells #[.map (some b)] 103)).heap.size 9 1 v ss.length ((ss.mergeSort (fun x y => decide (x ≤ y))).map encStr) ∧ (v = .slice none 0 0 ↔ ss = []) ∧ Below (w.alloc (.cells #[.map (some b)] 103)).heap.size (w.alloc (.cells #[.map (some b)] 103)) w' := by
  have hbl := hown.lt
  have hseq : SeqGives Fence.wide 2 Try.prog 90 #[.pointer (some ⟨w.heap.size, 0, none⟩)] encStr (fun ss => ss.Perm (strKeys D0)) (Maps.size D0) (w.alloc (.cells #[.map (some b)] 103)) :=
    AnyZ.keys_gives (ρ := Try.keys65_ren) { Try.keys65 with } Fence.wide _ trivial rfl (by omega) w.heap.size b nn D0 _ (by simp) (by simp) (by
      obtain ⟨es, clock, hb, Ft, hs, hD⟩ := hown
      exact ⟨es, clock, (Below.heap_alloc _ _ b hbl).trans hb, Ft, hs, hD⟩)
  exact AnyZ.sorted_in Try.sorted64 Fence.wide 5 trivial trivial trivial trivial rfl (by omega) (Try.sorts64 _) (enters_of Try.func89 (by kernel_rfl) rfl) 90 #[.pointer (some ⟨w.heap.size, 0, none⟩)] trivial (enters_of Try.func90 (by kernel_rfl) rfl) _ _ hmax hbytes _ hseq
open Go.RowKit Go.Maps Go.Sort in
theorem Try.slices_Sorted_keys_nil_64_65 (w : World) :
    CallsIn Fence.wide 5 Try.prog 64 #[.func (.func 90) #[] #[.pointer (some ⟨w.heap.size, 0, none⟩)]] (w.alloc (.cells #[.map none] 103)) fun e w' => ∃ (v : Value) (ss : List (List UInt8)), e = .returned v ∧ ss = [] ∧
      w'.ownsRow (w.alloc (.cells #[.map none] 103)).heap.size 9 1 v ss.length ((ss.mergeSort (fun x y => decide (x ≤ y))).map encStr) ∧ (v = .slice none 0 0 ↔ ss = []) ∧ Below (w.alloc (.cells #[.map none] 103)).heap.size (w.alloc (.cells #[.map none] 103)) w' := by
  have hseq : SeqGives Fence.wide 2 Try.prog 90 #[.pointer (some ⟨w.heap.size, 0, none⟩)] encStr (fun ss : List (List UInt8) => ss = []) 0 (w.alloc (.cells #[.map none] 103)) :=
    AnyZ.keys_gives_nil (ρ := Try.keys65_ren) { Try.keys65 with } Fence.wide _ trivial rfl w.heap.size _ (by simp) (by simp)
  exact AnyZ.sorted_in Try.sorted64 Fence.wide 5 trivial trivial trivial trivial rfl (by omega) (Try.sorts64 _) (enters_of Try.func89 (by kernel_rfl) rfl) 90 #[.pointer (some ⟨w.heap.size, 0, none⟩)] trivial (enters_of Try.func90 (by kernel_rfl) rfl) _ 0 (Nat.zero_le _) (by omega) _ hseq
def Try.keys75_ren : Go.Shelf.Ren := ⟨fun | 7 => 75 | 10 => 103 | n => n, fun | 23 => 129 | 26 => 9 | 3 => 3 | 28 => 116 | 0 => 0 | 27 => 111 | 33 => 98 | 4 => 4 | n => n, fun | n => n⟩
theorem Try.keys75 : Go.Proofs.SlLaysZ.n7 Try.prog Try.keys75_ren := {
  mixed := by kernel_rfl
  f7 := ⟨Try.f75.name, by decide, Try.func75.trans (congrArg some (by kernel_rfl))⟩
  f10 := ⟨Try.f103.name, by decide, Try.func103.trans (congrArg some (by kernel_rfl))⟩
  t0 := Try.underlying0
  a0 := Try.isAgg0
  z0 := Try.sizeOf0
  v0 := Try.zeroValue0
  t4 := Try.underlying4
  a4 := Try.isAgg4
  z4 := Try.sizeOf4
  v4 := Try.zeroValue4
  t23 := Try.underlying129
  a23 := Try.isAgg129
  z23 := Try.sizeOf129
  v23 := Try.zeroValue129
  t26 := Try.underlying9
  a26 := Try.isAgg9
  z26 := Try.sizeOf9
  v26 := Try.zeroValue9
  t27 := Try.underlying111
  a27 := Try.isAgg111
  z27 := Try.sizeOf111
  v27 := Try.zeroValue111
  t28 := Try.underlying116
  a28 := Try.isAgg116
  z28 := Try.sizeOf116
  v28 := Try.zeroValue116
  t33 := Try.underlying98
  a33 := Try.isAgg98
  z33 := Try.sizeOf98
  v33 := Try.zeroValue98 }
open Go.RowKit Go.Maps Go.Sort in
theorem Try.maps_Keys_75 (mb : Option Nat) (W : World) : CallsIn Fence.wide 5 Try.prog 75 #[.map mb] W fun e w' => e = .returned (.func (.func 103) #[] #[.pointer (some ⟨W.heap.size, 0, none⟩)]) ∧ w' = W.alloc (.cells #[.map mb] 129) :=
  AnyZ.keys_in Try.keys75 Fence.wide 5 trivial rfl mb W
open Go.RowKit Go.Maps Go.Sort in
theorem Try.slices_Sorted_keys_64_75 {H : Type} (b nn : Nat) (D0 : DataW H) (R : Value → Option (DataW H × List MemPlace)) (w : World) (hown : w.ownsMap Try.prog 9 R b nn D0) (hmax : Maps.size D0 ≤ maxLen) (hbytes : Maps.size D0 * 16 ≤ 140737488355328) :
    CallsIn Fence.wide 5 Try.prog 64 #[.func (.func 103) #[] #[.pointer (some ⟨w.heap.size, 0, none⟩)]] (w.alloc (.cells #[.map (some b)] 129)) fun e w' => ∃ (v : Value) (ss : List (List UInt8)), e = .returned v ∧ ss.Perm (strKeys D0) ∧
      w'.ownsRow (w.alloc (.cells #[.map (some b)] 129)).heap.size 9 1 v ss.length ((ss.mergeSort (fun x y => decide (x ≤ y))).map encStr) ∧ (v = .slice none 0 0 ↔ ss = []) ∧ Below (w.alloc (.cells #[.map (some b)] 129)).heap.size (w.alloc (.cells #[.map (some b)] 129)) w' := by
  have hbl := hown.lt
  have hseq : SeqGives Fence.wide 2 Try.prog 103 #[.pointer (some ⟨w.heap.size, 0, none⟩)] encStr (fun ss => ss.Perm (strKeys D0)) (Maps.size D0) (w.alloc (.cells #[.map (some b)] 129)) :=
    AnyZ.keys_gives (ρ := Try.keys75_ren) { Try.keys75 with } Fence.wide _ trivial rfl (by omega) w.heap.size b nn D0 _ (by simp) (by simp) (by
      obtain ⟨es, clock, hb, Ft, hs, hD⟩ := hown
      exact ⟨es, clock, (Below.heap_alloc _ _ b hbl).trans hb, Ft, hs, hD⟩)
  exact AnyZ.sorted_in Try.sorted64 Fence.wide 5 trivial trivial trivial trivial rfl (by omega) (Try.sorts64 _) (enters_of Try.func89 (by kernel_rfl) rfl) 103 #[.pointer (some ⟨w.heap.size, 0, none⟩)] trivial (enters_of Try.func103 (by kernel_rfl) rfl) _ _ hmax hbytes _ hseq
open Go.RowKit Go.Maps Go.Sort in
theorem Try.slices_Sorted_keys_nil_64_75 (w : World) :
    CallsIn Fence.wide 5 Try.prog 64 #[.func (.func 103) #[] #[.pointer (some ⟨w.heap.size, 0, none⟩)]] (w.alloc (.cells #[.map none] 129)) fun e w' => ∃ (v : Value) (ss : List (List UInt8)), e = .returned v ∧ ss = [] ∧
      w'.ownsRow (w.alloc (.cells #[.map none] 129)).heap.size 9 1 v ss.length ((ss.mergeSort (fun x y => decide (x ≤ y))).map encStr) ∧ (v = .slice none 0 0 ↔ ss = []) ∧ Below (w.alloc (.cells #[.map none] 129)).heap.size (w.alloc (.cells #[.map none] 129)) w' := by
  have hseq : SeqGives Fence.wide 2 Try.prog 103 #[.pointer (some ⟨w.heap.size, 0, none⟩)] encStr (fun ss : List (List UInt8) => ss = []) 0 (w.alloc (.cells #[.map none] 129)) :=
    AnyZ.keys_gives_nil (ρ := Try.keys75_ren) { Try.keys75 with } Fence.wide _ trivial rfl w.heap.size _ (by simp) (by simp)
  exact AnyZ.sorted_in Try.sorted64 Fence.wide 5 trivial trivial trivial trivial rfl (by omega) (Try.sorts64 _) (enters_of Try.func89 (by kernel_rfl) rfl) 103 #[.pointer (some ⟨w.heap.size, 0, none⟩)] trivial (enters_of Try.func103 (by kernel_rfl) rfl) _ 0 (Nat.zero_le _) (by omega) _ hseq
end Go.Proofs
namespace Go.Proofs.Ythhhlaoiampinaa
set_option maxRecDepth 20000
open Go.RowKit Go.Maps
namespace Ky
theorem keyS : Keyed Try.prog 9 := string_keyed Try.underlying9
theorem strKeys_spec {H : Type} {w : World} {b n : Nat} {D : DataW H} {R : Value → Option (DataW H × List MemPlace)} (h : w.ownsMap Try.prog 9 R b n D) : (strKeys D).Nodup ∧ (∀ x, x ∈ strKeys D ↔ has D (.string x) = true) ∧ (strKeys D).length = Maps.size D := by
  obtain ⟨es, hD, hpw, _⟩ := h.entries keyS
  obtain ⟨es', hD', hko⟩ := h.keysOf
  obtain rfl : es = es' := by rw [hD] at hD'; simpa using hD'
  subst hD
  have hk : ∀ p ∈ es, ∃ x, p.1 = .string x := fun p hp => by obtain ⟨v, hv⟩ := hko p hp; obtain ⟨x, _, hx, _⟩ := Maps.keyOf_str Try.underlying9 hv; exact ⟨x, hx⟩
  refine ⟨?_, ?_, ?_⟩
  · show (es.map fun p => strOf p.1).Nodup
    refine List.pairwise_map.2 (hpw.imp_of_mem fun {p q} hp' hq' hne e => hne ?_)
    obtain ⟨a, ha⟩ := hk p hp'
    obtain ⟨b, hb⟩ := hk q hq'
    rw [ha, hb] at e ⊢
    exact congrArg _ e
  · intro x
    rw [has_eq, List.any_eq_true]
    show x ∈ es.map (fun p => strOf p.1) ↔ _
    rw [List.mem_map]
    constructor
    · rintro ⟨p, hp', rfl⟩
      obtain ⟨a, ha⟩ := hk p hp'
      exact ⟨p, hp', by rw [ha]; simp [Lit.sameKey, strOf]⟩
    · rintro ⟨p, hp', hs⟩
      obtain ⟨a, ha⟩ := hk p hp'
      rw [ha] at hs
      exact ⟨p, hp', by rw [ha]; simpa [Lit.sameKey, strOf] using hs⟩
  · show (es.map fun p => strOf p.1).length = _
    rw [List.length_map]; rfl
theorem sorted_lt {ss : List (List UInt8)} (hn : ss.Nodup) : (ss.mergeSort leB).Pairwise (· < ·) := by
  have tr : ∀ a b c : List UInt8, leB a b = true → leB b c = true → leB a c = true := fun a b c h1 h2 => by simp only [leB, decide_eq_true_eq] at *; exact List.le_trans h1 h2
  have tl : ∀ a b : List UInt8, (leB a b || leB b a) = true := fun a b => by simp only [leB, Bool.or_eq_true, decide_eq_true_eq]; exact List.le_total a b
  have h1 := List.pairwise_mergeSort tr tl ss
  have h2 : (ss.mergeSort leB).Nodup := (List.mergeSort_perm ss leB).nodup_iff.2 hn
  refine (h1.and h2).imp ?_
  rintro a b ⟨h3, h4⟩
  rcases Classical.em (a < b) with h | h
  · exact h
  · exact absurd (List.le_antisymm (of_decide_eq_true h3) (List.not_lt.1 h)) h4
/-- The keys, sorted. -/
def Sorted (xs : List ByteArray) : Prop := (xs.map sl).Pairwise (· < ·)
theorem sorted_row {w' : World} {base : Nat} {v : Value} {ss : List (List UInt8)} (h : w'.ownsRow base 9 1 v ss.length ((ss.mergeSort (fun x y => decide (x ≤ y))).map encStr)) :
    Owns w' base 9 1 es v ((ss.mergeSort leB).map mkS) := by
  have hl : ((ss.mergeSort leB).map mkS).length = ss.length := by rw [List.length_map, List.length_mergeSort]
  unfold Owns
  rw [hl, es_map, List.map_map]
  exact h
/-- Two that are sorted and have the same. -/
theorem sorted_eq : ∀ {xs ys : List ByteArray}, Sorted xs → Sorted ys → (∀ k, k ∈ xs ↔ k ∈ ys) → xs = ys
  | [], [], _, _, _ => rfl
  | [], y :: ys, _, _, h => by have := (h y).2 (by simp); simp at this
  | x :: xs, [], _, _, h => by have := (h x).1 (by simp); simp at this
  | x :: xs, y :: ys, hx, hy, h => by
    unfold Sorted at hx hy
    rw [List.map_cons, List.pairwise_cons] at hx hy
    have lt_irr : ∀ a : List UInt8, ¬ a < a := List.lt_irrefl
    have hxy : x = y := by
      rcases List.mem_cons.1 ((h x).1 (by simp)) with e | e
      · exact e
      · rcases List.mem_cons.1 ((h y).2 (by simp)) with e2 | e2
        · exact e2.symm
        · exact absurd (List.lt_trans (hx.1 _ (List.mem_map.2 ⟨y, e2, rfl⟩)) (hy.1 _ (List.mem_map.2 ⟨x, e, rfl⟩))) (lt_irr _)
    subst hxy
    congr 1
    refine sorted_eq hx.2 hy.2 fun k => ?_
    constructor
    · intro hk
      rcases List.mem_cons.1 ((h k).1 (List.mem_cons_of_mem _ hk)) with e | e
      · subst e; exact absurd (hx.1 _ (List.mem_map.2 ⟨k, hk, rfl⟩)) (lt_irr _)
      · exact e
    · intro hk
      rcases List.mem_cons.1 ((h k).2 (List.mem_cons_of_mem _ hk)) with e | e
      · subst e; exact absurd (hy.1 _ (List.mem_map.2 ⟨k, hk, rfl⟩)) (lt_irr _)
      · exact e
theorem sorted_nodup {xs : List ByteArray} (h : Sorted xs) : xs.Nodup := by
  unfold Sorted at h
  rw [List.pairwise_map] at h
  exact h.imp fun hab e => by subst e; exact List.lt_irrefl _ hab
/-- What is sorted out of a map told by a function. -/
theorem keys_spec {w : World} {mb c : Nat} {D : DataW Value} {f : ByteArray → Option Value} (h : w.ownsMap Try.prog 9 heldR mb c D) (hs : Maps.size D = c) (hh : ∀ k, Maps.has D (kl k) = (f k).isSome) {ss : List (List UInt8)} (hp : ss.Perm (strKeys D)) :
    Sorted ((ss.mergeSort leB).map mkS) ∧ ((ss.mergeSort leB).map mkS).length = c ∧ ∀ k, k ∈ (ss.mergeSort leB).map mkS ↔ (f k).isSome = true := by
  obtain ⟨n1, n2, n3⟩ := strKeys_spec h
  refine ⟨?_, by rw [List.length_map, List.length_mergeSort, hp.length_eq, n3, hs], fun k => ?_⟩
  · unfold Sorted
    have : ((ss.mergeSort leB).map mkS).map sl = ss.mergeSort leB := by
      rw [List.map_map]
      conv => rhs; rw [← List.map_id (ss.mergeSort leB)]
      exact List.map_congr_left (fun a _ => sl_mkS a)
    rw [this]
    exact sorted_lt (hp.nodup_iff.2 n1)
  · rw [List.mem_map, ← hh k]
    constructor
    · rintro ⟨y, hy, rfl⟩
      exact (n2 y).1 (hp.mem_iff.1 ((List.mergeSort_perm ss leB).mem_iff.1 hy))
    · intro hx
      exact ⟨sl k, (List.mergeSort_perm ss leB).mem_iff.2 (hp.mem_iff.2 ((n2 _).2 hx)), mkS_sl k⟩
end Ky
end Go.Proofs.Ythhhlaoiampinaa
namespace Go.Proofs.Ythhhlaoiampinaa
open Go.RowKit
theorem crc_in (N c : Nat) (hN : N < 4294967296) (hc : c < 256) : bits BinOp.xor IntKind.u32 (N : Int) (c : Int) = ((N ^^^ c : Nat) : Int) := u32_xor_nat N c hN (by omega)
theorem crc_step (m : Nat) (hm : m < 4294967296) : bits BinOp.xor IntKind.u32 ((m : Int) / 2) (bits BinOp.and IntKind.u32 (m : Int) 1 * 2197175160 % 4294967296) = ((Lg.step m : Nat) : Int) := by
  have h1 : bits BinOp.and IntKind.u32 (m : Int) 1 = ((m &&& 1 : Nat) : Int) := u32_and_nat m 1 hm (by omega)
  have h2 : (m &&& 1) * 2197175160 < 4294967296 := by rw [Nat.and_one_is_mod]; have := Nat.mod_lt m (y := 2) (by omega); omega
  have h3 : (m : Int) / (2 : Int) = ((m >>> 1 : Nat) : Int) := by rw [Nat.shiftRight_eq_div_pow]; show _ = ((m / 2 : Nat) : Int); omega
  rw [h1, show ((m &&& 1 : Nat) : Int) * 2197175160 % 4294967296 = (((m &&& 1) * 2197175160 : Nat) : Int) from by omega, h3]
  exact u32_xor_nat _ _ (by rw [Nat.shiftRight_eq_div_pow]; omega) h2
theorem crc_end (N : Nat) (hN : N < 4294967296) : bits BinOp.xor IntKind.u32 IntKind.u32.max (N : Int) = ((4294967295 - N : Nat) : Int) := by
  rw [Lg.not_xor hN, Nat.xor_comm]
  exact u32_xor_nat 4294967295 N (by omega) hN
set_option maxHeartbeats 800000 in
theorem crc_any (s : ByteArray) (w : World) (hs : s.size ≤ 140737488351232) :
    Calls Try.prog 122 #[.string s] w fun e w' => e = .returned (.int .u32 (Lg.crc (sl s) : Nat)) ∧ w = w' := by
  go_enter Try.func122, Try.ntmps122
  go_wp2_with fail
  go_loop [3, 4, 7] (fun n c i => ∃ k : Nat, k ≤ s.size ∧ i = .int .i64 k ∧ n = .int .u32 (Lg.reg 4294967295 ((sl s).take k) : Nat)) (fun _ _ i => s.size - (intOf i).toNat)
  case atStart => exact ⟨0, Nat.zero_le _, rfl, rfl⟩
  case round =>
    obtain ⟨k, hk, rfl, rfl⟩ := hrel
    have hn := Lg.reg_lt ((sl s).take k) (n := 4294967295) (by omega)
    generalize hN : Lg.reg 4294967295 ((sl s).take k) = N at hn
    have HN := Lib.hid hN
    clear hN
    by_cases hlt : k < s.size
    · have hb := Lg.byte_lt s[k]
      go_wp2
      go_loop [3, 16] (fun n j => ∃ i m : Nat, i ≤ 8 ∧ m < 4294967296 ∧ j = .int .i64 i ∧ n = .int .u32 m ∧ m = Lg.steps i (N ^^^ s[k].toNat)) (fun _ j => 8 - (intOf j).toNat)
      case atStart => exact ⟨0, N ^^^ s[k].toNat, by omega, Nat.xor_lt_two_pow (n := 32) hn (by omega), rfl, by rw [crc_in N _ hn hb], rfl⟩
      case round => 
        obtain ⟨i, m, hi, hm, rfl, rfl, hmm⟩ := hrel
        have HM := Lib.hid hmm
        clear hmm
        by_cases h8 : i < 8
        · go_wp2
          go_round
          case rel => exact ⟨i + 1, Lg.step m, by omega, Lg.step_lt hm, by go_num, by rw [crc_step m hm], by rw [HM.out]; rfl⟩
          case measure => simp [intOf]; omega
        · have hm8 : Hid (m = Lg.reg 4294967295 ((sl s).take (k + 1))) := by
            show _ = _
            rw [HM.out, show i = 8 from by omega, List.take_add_one, sl_getElem? s k hlt, Lg.reg_append, HN.out]; rfl
          go_wp2
          go_round
          case rel => exact ⟨k + 1, by omega, by go_num, by rw [hm8.out]⟩
          case measure => simp [intOf]; omega
    · have hE : Hid (4294967295 - N = Lg.crc (sl s)) := by
        show _ = _
        rw [← HN.out, List.take_of_length_le (by rw [sl_len]; omega)]; rfl
      go_wp2
      go_ret
      exact ⟨ret_int (by rw [crc_end N hn, hE.out]), rfl⟩
end Go.Proofs.Ythhhlaoiampinaa
namespace Go.Proofs.Ythhhlaoiampinaa
open Go.RowKit
set_option maxHeartbeats 800000 in
theorem frame_neg (s : ByteArray) (w : World) :
    Calls Try.prog 108 #[.int .i64 (-1), .string s] w fun e w' => e = .returned (.tuple #[.string ByteArray.empty, .int .i64 1]) ∧ w = w' := by
  go_enter Try.func108, Try.ntmps108
  go_wp2_with fail
  go_ret2
  exact ⟨rfl, rfl⟩
set_option maxHeartbeats 800000 in
theorem frame_large (n : Nat) (s : ByteArray) (w : World) (hn : n ≤ 2147483648) (hs : 1000 < s.size) (hs2 : s.size ≤ 140737488351232) :
    Calls Try.prog 108 #[.int .i64 n, .string s] w fun e w' => e = .returned (.tuple #[.string ByteArray.empty, .int .i64 2]) ∧ w = w' := by
  go_enter Try.func108, Try.ntmps108
  go_wp2_with fail
  go_ret2
  exact ⟨rfl, rfl⟩
theorem nbv (m : Nat) (x : Int) (h : ((m % 256 : Nat) : Int) = x) : Value.int .u8 x = bv (Lg.nb m) := by
  unfold bv; rw [Lg.nb_toNat, h]
theorem not_byte (m : Nat) (h : m < 256) : bits BinOp.xor IntKind.u8 IntKind.u8.max (m : Int) = ((255 - m : Nat) : Int) := by
  have e : bits BinOp.xor IntKind.u8 (255 : Nat) (m : Int) = ((255 ^^^ m : Nat) : Int) := u8_xor_nat 255 m (by omega) h
  have e2 : 255 - m = 255 ^^^ m := by
    have e : (~~~ (BitVec.ofNat 8 m)).toNat = (BitVec.ofNat 8 m ^^^ BitVec.allOnes 8).toNat := by rw [BitVec.xor_allOnes]
    rw [BitVec.toNat_not, BitVec.toNat_xor, BitVec.toNat_ofNat, BitVec.toNat_allOnes, Nat.mod_eq_of_lt (by omega)] at e
    rw [Nat.xor_comm]; simpa using e
  rw [e2]; exact e
theorem be4_cells (n : Nat) (hn : n ≤ 2147483648) : #[Value.int IntKind.u8 ((n : Int) / 16777216), Value.int IntKind.u8 ((n : Int) / 65536 % 256), Value.int IntKind.u8 ((n : Int) / 256 % 256), Value.int IntKind.u8 ((n : Int) % 256)] = #[bv (Lg.nb (n / 16777216)), bv (Lg.nb (n / 65536)), bv (Lg.nb (n / 256)), bv (Lg.nb n)] := by
  rw [nbv (n / 16777216) _ (by omega), nbv (n / 65536) _ (by omega), nbv (n / 256) _ (by omega), nbv n _ (by omega)]
theorem hd4_cells (m : Nat) (hm : m ≤ 1000) : #[Value.int IntKind.u8 ((m : Int) / 256), Value.int IntKind.u8 ((m : Int) % 256), Value.int IntKind.u8 (bits BinOp.xor IntKind.u8 IntKind.u8.max ((m : Int) / 256)), Value.int IntKind.u8 (bits BinOp.xor IntKind.u8 IntKind.u8.max ((m : Int) % 256))].toList = (Lg.hd4 m).flatMap eb := by
  have h1 : ((m : Int) / 256) = ((m / 256 : Nat) : Int) := by omega
  have h2 : ((m : Int) % 256) = ((m % 256 : Nat) : Int) := by omega
  rw [h1, h2, not_byte _ (by omega), not_byte _ (by omega), nbv (m / 256) _ (by omega), nbv m _ (by omega), nbv (255 - m / 256 % 256) _ (by omega), nbv (255 - m % 256) _ (by omega)]
  rfl
theorem le4_cells (C : Nat) (hC : C < 4294967296) : [Value.int IntKind.u8 ((C : Int) % 256), Value.int IntKind.u8 ((C : Int) / 256 % 256), Value.int IntKind.u8 ((C : Int) / 65536 % 256), Value.int IntKind.u8 ((C : Int) / 16777216)] = (Lg.le4 C).flatMap eb := by
  rw [nbv C _ (by omega), nbv (C / 256) _ (by omega), nbv (C / 65536) _ (by omega), nbv (C / 16777216) _ (by omega)]
  rfl
set_option maxRecDepth 100000 in
set_option maxHeartbeats 1600000 in
theorem frame_any (n : Nat) (s : ByteArray) (w : World) (hn : n ≤ 2147483648) (hs : s.size ≤ 1000) :
    Calls Try.prog 108 #[.int .i64 n, .string s] w fun e w' => e = .returned (.tuple #[.string (mkS (Lg.frame n (sl s))), .int .i64 0]) ∧ Below w.heap.size w w' := by
  obtain ⟨B, hB4, hB⟩ : ∃ B, B.size ≤ 4 ∧ mkS (Lg.be4 n) = B := ⟨_, Nat.le_refl 4, rfl⟩
  have hcv : ∀ A, Sem.run Try.prog (convert 110 9 (Value.slice (some ⟨w.heap.size + 1, 0, none⟩) 4 4)) ((w.alloc (.cells A 5)).alloc (.cells #[Value.int IntKind.u8 ((n : Int) / 16777216), Value.int IntKind.u8 ((n : Int) / 65536 % 256), Value.int IntKind.u8 ((n : Int) / 256 % 256), Value.int IntKind.u8 ((n : Int) % 256)] 5)) = .ok (.string B) ((w.alloc (.cells A 5)).alloc (.cells #[Value.int IntKind.u8 ((n : Int) / 16777216), Value.int IntKind.u8 ((n : Int) / 65536 % 256), Value.int IntKind.u8 ((n : Int) / 256 % 256), Value.int IntKind.u8 ((n : Int) % 256)] 5)) := by
    intro A
    rw [be4_cells n hn, ← hB]
    have := run_string_four Try.underlying110 Try.underlying5 Try.underlying9 (w.alloc (.cells A 5)) (Lg.nb (n / 16777216)) (Lg.nb (n / 65536)) (Lg.nb (n / 256)) (Lg.nb n)
    rw [World.size_alloc] at this
    exact this
  have hE : Lg.crc (sl (B ++ s)) = Lg.fcrc n (sl s) := by rw [← hB, sl_append, sl_mkS]; rfl
  have HE := Lib.hid hE
  have HB := Lib.hid hB
  have hz : (B ++ s).size ≤ 140737488351232 := by rw [ByteArray.size_append]; omega
  clear hE hB
  have d0 : decide ((n : Int) < 0) = false := by simp
  have d1 : decide (2147483648 < (n : Int)) = false := by simp; omega
  have d2 : decide (1000 < (s.size : Int)) = false := by simp; omega
  go_enter Try.func108, Try.ntmps108
  go_wp2_with fail
  refine (crc_any _ _ hz).mono ?_
  rintro e w' ⟨rfl, rfl⟩
  rw [HE.out]
  have hC : Lg.fcrc n (sl s) < 4294967296 := Lg.crc_lt _
  generalize hCe : Lg.fcrc n (sl s) = C at hC
  have HC := Lib.hid hCe
  clear hCe HE hz
  have o1 : ∀ A, Owns ((w.alloc (.cells #[Value.int IntKind.u8 ((s.size : Int) / 256), Value.int IntKind.u8 ((s.size : Int) % 256), Value.int IntKind.u8 (bits BinOp.xor IntKind.u8 IntKind.u8.max ((s.size : Int) / 256)), Value.int IntKind.u8 (bits BinOp.xor IntKind.u8 IntKind.u8.max ((s.size : Int) % 256))] 5)).alloc A) w.heap.size 5 1 eb (.slice (some ⟨w.heap.size, 0, none⟩) 4 4) (Lg.hd4 s.size) := fun A =>
    (Owns.lit (size := 1) (enc := eb) w w.heap.size _ (Lg.hd4 s.size) (Nat.le_refl _) (by simp [maxLen, Lg.hd4]) (by rfl) (hd4_cells s.size hs)).alloc A
  have O1 := Lib.hid o1
  clear o1
  have hle := Lib.hid (le4_cells C hC)
  have hfin : Hid (mkS (Lg.hd4 s.size ++ sl s ++ Lg.le4 C) = mkS (Lg.frame n (sl s))) := by show _ = _; rw [← HC.out, Lg.frame, sl_len]
  go_wp2_with (first | (at_builtin; (refine wpList_append_text rfl (.tmp 51) (.tmp 52) _ _ rfl w.heap.size 5 Try.underlying110 Try.underlying9 byteInfo _ (Lg.hd4 s.size) rfl (O1.out _) s rfl (by simp [Lg.hd4]; omega) (by simp; omega) ?_); intro v1 w1 hown1 hg1) | (at_builtin; go_must (refine wpList_append_owns rfl (.tmp 54) (.tmp 66) _ rfl w.heap.size 5 (.int .u8 0) 1 1 eb Try.underlying110 byteInfo rfl (by decide) _ _ rfl (hown1.alloc _) ⟨w1.heap.size, 0, none⟩ 4 4 (Lg.le4 C) rfl rfl rfl (by rw [← hle.out]; exact new_cells _ _ _) (eb_one _) (by simp [maxLen, Lg.hd4, Lg.le4, sl_len]; omega) (by simp [Lg.hd4, Lg.le4, sl_len]; omega) (by have := hg1.size; simp at this ⊢; omega) ?_); intro v2 w2 hown2 hg2; have hrs := run_string_own (dst := 9) Try.underlying110 Try.underlying5 Try.underlying9 (by rw [← eb_map]; exact hown2)))
  go_ret2
  refine ⟨ret_si hfin.out rfl, ?_⟩
  have b1 := ((Below.refl w.heap.size w).alloc (Nat.le_refl _) (.cells #[Value.int IntKind.u8 ((s.size : Int) / 256), Value.int IntKind.u8 ((s.size : Int) % 256), Value.int IntKind.u8 (bits BinOp.xor IntKind.u8 IntKind.u8.max ((s.size : Int) / 256)), Value.int IntKind.u8 (bits BinOp.xor IntKind.u8 IntKind.u8.max ((s.size : Int) % 256))] 5)).alloc (by simp) (.cells #[Value.int IntKind.u8 ((n : Int) / 16777216), Value.int IntKind.u8 ((n : Int) / 65536 % 256), Value.int IntKind.u8 ((n : Int) / 256 % 256), Value.int IntKind.u8 ((n : Int) % 256)] 5)
  exact bel_append (bel_append0 b1 (Nat.le_refl _) (O1.out _) hg1) (Nat.le_refl _) hown1 hg2
end Go.Proofs.Ythhhlaoiampinaa
namespace Go.Proofs.Ythhhlaoiampinaa
open Go.RowKit
/-- A text's bytes from 'k' on, cut off after 'm'. -/
theorem recover_len2 (r : ByteArray) (h : 4 ≤ r.size) : Lg.len2 (sl r) = (r[0]'(by omega)).toNat * 256 + (r[1]'(by omega)).toNat := by
  have h0 := sl_getElem? r 0 (by omega)
  have h1 := sl_getElem? r 1 (by omega)
  match hl : sl r, h0, h1 with
  | a :: b :: t, h0, h1 =>
    simp at h0 h1
    simp [Lg.len2, h0, h1]
theorem len2_lt (l : List UInt8) : Lg.len2 l < 65536 := by
  unfold Lg.len2
  split
  · rename_i a b _; have := Lg.byte_lt a; have := Lg.byte_lt b; omega
  · omega
theorem i64_or_nat' (a b : Nat) (ha : a < 4294967296) (hb : b < 4294967296) : bits .or .i64 (a : Int) (b : Int) = ((a ||| b : Nat) : Int) := by
  have hx : a ||| b < 2 ^ 32 := Nat.or_lt_two_pow (by omega) (by omega)
  show IntKind.i64.wrap ((BitVec.ofInt 64 (a : Int) ||| BitVec.ofInt 64 (b : Int)).toNat : Int) = _
  rw [BitVec.toNat_or, BitVec.ofInt_natCast, BitVec.toNat_ofNat, BitVec.ofInt_natCast, BitVec.toNat_ofNat, Nat.mod_eq_of_lt (a := a) (by omega), Nat.mod_eq_of_lt (a := b) (by omega), IntWalk.i64_in _ (by omega)]
theorem or_head (a b : UInt8) : bits BinOp.or IntKind.i64 (wrap64 (wrap64 (a.toNat : Int) * 256)) (wrap64 (b.toNat : Int)) = ((a.toNat * 256 + b.toNat : Nat) : Int) := by
  have ha := Lg.byte_lt a
  have hb := Lg.byte_lt b
  have e1 : wrap64 (wrap64 (a.toNat : Int) * 256) = ((a.toNat * 256 : Nat) : Int) := by simp only [wrap64]; omega
  have e2 : wrap64 (b.toNat : Int) = ((b.toNat : Nat) : Int) := by simp only [wrap64]; omega
  rw [e1, e2, i64_or_nat' _ _ (by omega) (by omega), nat_join 8 _ _ (by omega) (by omega)]
def recN (p : List (List UInt8) × Nat) (base : Nat) (e : Ending) (w' : World) : Prop :=
  ∃ v, e = .returned (.tuple #[v, .int .i64 p.2]) ∧ Owns w' base 9 1 es v (p.1.map mkS)
theorem stringInfo' : ElemInfo Try.prog 9 (.string ByteArray.empty) 1 16 := by unfold ElemInfo; kernel_rfl
end Go.Proofs.Ythhhlaoiampinaa
