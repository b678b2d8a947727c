/- What field's named and its closure compute. -/
import Derived.Test.YtoalfjkbgeiggaaGreatDoorZip1
import Derived.Test.YtoalfjkbgeiggaaGreatDoorZip4
import Derived.Test.YtoalfjkbgeiggaaGreatDoorZip2
import Derived.WalkSpells
import Derived.Test.YtoalfjkbgeiggaaGreatDoorZip0
import Derived.IntWalk
import Derived.Laws.StructEq
namespace Go.Proofs.YtoalfjkbgeiggaaGreatDoor
open Go.RowKit
/-- A field: its name, its value. -/
abbrev Fld := ByteArray × ByteArray
def lowS (s : ByteArray) : ByteArray := mkS (Tok.low (sl s))
theorem lowS_size (s : ByteArray) : (lowS s).size = s.size := by unfold lowS; rw [mkS_size, Tok.low_len, sl_len]
theorem lowS_lowS (s : ByteArray) : lowS (lowS s) = lowS s := by unfold lowS; rw [sl_mkS, Tok.low_low]
def isN (n : ByteArray) (f : Fld) : Bool := (lowS f.1).toList == n.toList
theorem toList_inj {a b : ByteArray} : (a.toList == b.toList) = decide (a = b) := by
  rw [ba_toList, ba_toList, Bool.eq_iff_iff, beq_iff_eq, decide_eq_true_iff]
  exact ⟨sl_inj, fun h => by rw [h]⟩
/-- The function value that 'named' answers, its name in block g. -/
def nfn (g : Nat) : Value := .func (.func 60) #[] #[.pointer (some ⟨g, 0, none⟩)]
set_option maxHeartbeats 800000 in
theorem named_any (n : ByteArray) (w : World) (hs : n.size ≤ 140737488351232) :
    Calls Tryz.prog 39 #[.string n] w fun e w' => e = .returned (nfn w.heap.size) ∧ w.heap.size < w'.heap.size ∧ w'.cell? ⟨w.heap.size, 0, none⟩ = some (.string (lowS n)) ∧ Below w.heap.size w w' := by
  go_enter Tryz.func39, Tryz.ntmps39
  go_wp2_with fail
  refine (lower_any n _ hs).mono ?_
  rintro e w1 ⟨rfl, b1⟩
  have hz : w.heap.size < w1.heap.size := by have := b1.size; simp at this; omega
  have c0 : w1.cell? ⟨w.heap.size, 0, none⟩ = some (.string n) := (b1.cell (by simp)).trans (by go_simp)
  have f0 : w1.frozen? ⟨w.heap.size, 0, none⟩ = false := (b1.frozen (by simp)).trans (by go_simp)
  go_wp2_with fail
  go_ret
  refine ⟨rfl, by simpa using hz, ?_, (((Below.refl _ _).alloc (Nat.le_refl _) _).trans (b1.mono (by simp))).setCell (p := ⟨w.heap.size, 0, none⟩) (Nat.le_refl _) _⟩
  exact World.cell?_setCell_same _ _ _ c0
set_option maxHeartbeats 1600000 in
theorem named1_any (f : Fld) (g : Nat) (n : ByteArray) (w : World) (hg : g < w.heap.size) (hc : w.cell? ⟨g, 0, none⟩ = some (.string n)) (hs : f.1.size ≤ 140737488351232) :
    Calls Tryz.prog 60 #[.agg #[.string f.1, .string f.2], .pointer (some ⟨g, 0, none⟩)] w fun e w' => e = .returned (.bool (isN n f)) ∧ Below w.heap.size w w' := by
  obtain ⟨a, b⟩ := f
  go_enter Tryz.func60, Tryz.ntmps60
  go_wp2_with fail
  have b0 : Below w.heap.size w (w.alloc (.cells #[.string a, .string b] 57)) := (Below.refl _ _).alloc (Nat.le_refl _) _
  have c0 : (w.alloc (.cells #[.string a, .string b] 57)).cell? ⟨w.heap.size, 0, none⟩ = some (.string a) := by go_simp
  have c1 : (w.alloc (.cells #[.string a, .string b] 57)).cell? ⟨g, 0, none⟩ = some (.string n) := (b0.cell hg).trans hc
  have hz : w.heap.size < (w.alloc (.cells #[.string a, .string b] 57)).heap.size := by simp
  generalize w.alloc (.cells #[.string a, .string b] 57) = w0 at *
  have HC := Lib.hid (fun w' (hb : Below w0.heap.size w0 w') => show w'.cell? ⟨w.heap.size, 0, none⟩ = some (.string a) ∧ w'.cell? ⟨g, 0, none⟩ = some (.string n) from ⟨(hb.cell hz).trans c0, (hb.cell (Nat.lt_trans hg hz)).trans c1⟩)
  clear c0 c1 hc
  refine wp_region_seq [(true, 0), (true, 1), (true, 3), (false, 2), (true, 4), (true, 5)] (fun w' => Below w0.heap.size w0 w') (by kernel_rfl) (by kernel_rfl) (fun _ _ _ _ _ h => h) (by kernel_rfl) (by kernel_rfl) (by first | exact (Below.refl _ _).drew | exact Below.drew (by assumption)) ?_
  have bS : Below w0.heap.size w0 _ := (by first | exact Below.drew (by assumption) | exact (Below.refl _ w0).drew)
  iterate 6 (first
    | (apply seqH_skip; (focus (simp only [List.getElem?_toArray, List.getElem?_cons_succ, List.getElem?_cons_zero]; rfl)); (focus rfl); simp only [Act.put, List.setIfInBounds_toArray, List.set_cons_zero, List.set_cons_succ])
    | (apply seqH_take; (focus (simp only [List.getElem?_toArray, List.getElem?_cons_succ, List.getElem?_cons_zero]; rfl)); (focus rfl); (focus (intro w' hS; obtain ⟨c0, c1⟩ := HC.out _ hS; first | (go_simp; rfl) | (go_simp; done))); simp only [Act.put, List.setIfInBounds_toArray, List.set_cons_zero, List.set_cons_succ])
    | (apply seqH_pass; (focus (simp only [List.getElem?_toArray, List.getElem?_cons_succ, List.getElem?_cons_zero]; rfl)); (focus rfl); (focus assumption); simp only [Act.put, List.setIfInBounds_toArray, List.set_cons_zero, List.set_cons_succ])
    | (apply seqH_eff; (focus (simp only [List.getElem?_toArray, List.getElem?_cons_succ, List.getElem?_cons_zero]; rfl)); (focus rfl); intro K hK; go_simp; (go_at_call 25; (with_reducible refine (lower_any a _ hs).mono ?_)); rintro e wN ⟨rfl, bN⟩; refine hK _ _ (seq_next (by assumption) bN (fun bS' => ?_)); clear hK K))
  refine seqH_nil ?_
  go_wp2_with fail
  go_ret
  exact ⟨rfl, b0.trans (Below.mono (by assumption) (by omega))⟩
end Go.Proofs.YtoalfjkbgeiggaaGreatDoor
namespace Go.Proofs.YtoalfjkbgeiggaaGreatDoor
open Go.RowKit
/-- The index of the first one, or -1. -/
def idxI (p : Fld → Bool) (l : List Fld) : Int := match l.findIdx? p with | some k => (k : Int) | none => -1
theorem idx_no {p : Fld → Bool} {l : List Fld} (h : l.any p = false) : idxI p l = -1 := by
  unfold idxI
  rw [List.findIdx?_eq_none_iff.2]
  intro x hx
  rw [List.any_eq_false] at h
  simpa using h x hx
theorem idx_yes {p : Fld → Bool} {l : List Fld} {k : Nat} (hk : k < l.length) (h : (l.take k).any p = false) (hp : p l[k] = true) : idxI p l = k := by
  have e : l.findIdx? p = some k := List.findIdx?_eq_some_iff_getElem.2 ⟨hk, hp, fun j hj => by
    rw [List.any_eq_false] at h
    simpa using h _ (by rw [List.mem_take_iff_getElem]; exact ⟨j, by omega, rfl⟩)⟩
  unfold idxI
  rw [e]
/-- The name that a function value has captured. -/
def Cap (w : World) (g : Nat) (n : ByteArray) : Prop := g < w.heap.size ∧ w.cell? ⟨g, 0, none⟩ = some (.string n)
theorem Cap.below {w w' : World} {g : Nat} {n : ByteArray} (h : Cap w g n) (hb : Below w.heap.size w w') : Cap w' g n :=
  ⟨Nat.lt_of_lt_of_le h.1 hb.size, (hb.cell h.1).trans h.2⟩
theorem Cap.far {w : World} {g : Nat} {n : ByteArray} (h : Cap w g n) {p : Addr} (hp : p.block ≠ g) (u : Value) : Cap (w.setCell p u) g n :=
  ⟨by simpa using h.1, (World.cell?_setCell_far _ _ _ _ hp).trans h.2⟩
theorem fld_two {w : World} {v : Value} {l : List Fld} (h : SlR w e_ss v l) (hn : 0 < l.length) :
    ∃ b off c, v = .slice (some ⟨b, off, none⟩) l.length c ∧ b < w.heap.size ∧ ∀ k (hk : k < l.length), w.cell? ⟨b, off + k * 2, none⟩ = some (.string l[k].1) ∧ w.cell? ⟨b, off + k * 2 + 1, none⟩ = some (.string l[k].2) := by
  obtain ⟨b, off, c, h1, h2, h3⟩ := h.two (fun _ => rfl) hn
  exact ⟨b, off, c, h1, h2, fun k hk => h3 k hk _ _ rfl rfl⟩
def Lims (l : List Fld) : Prop := ∀ f ∈ l, f.1.size ≤ 140737488351232
theorem fldInfoB : ElemInfo Tryz.prog 57 (.agg #[.string ByteArray.empty, .string ByteArray.empty]) 2 32 := by unfold ElemInfo; kernel_rfl
theorem ss_oneB (l : List Fld) : ∀ u ∈ l.flatMap e_ss, u.oneCell' = true := by
  intro u hu
  obtain ⟨d, _, hd⟩ := List.mem_flatMap.1 hu
  simp only [e_ss, List.mem_cons, List.not_mem_nil, or_false] at hd
  rcases hd with rfl | rfl <;> rfl
/-- A slice of the call's own that holds these fields. -/
def RetFlds (base : Nat) (l : List Fld) (e : Ending) (w' : World) : Prop := ∃ u, e = .returned u ∧ Owns w' base 57 2 e_ss u l
end Go.Proofs.YtoalfjkbgeiggaaGreatDoor
namespace Go.Proofs.YtoalfjkbgeiggaaGreatDoor
open Go.RowKit
section
variable {w w1 w2 : World} {row : Option Nat} {g : Nat}
theorem gr_below (h : w.grownBy w1 row) (hb : Below w1.heap.size w1 w2) : w.grownBy w2 row :=
  ⟨hb.os.trans h.os, hb.tape.trans h.tape, hb.output.trans h.output, Nat.le_trans h.size hb.size, fun k hk hr => (hb.block k (Nat.lt_of_lt_of_le hk h.size)).trans (h.block k hk hr)⟩
theorem gr_of (hb : Below w.heap.size w w1) : w.grownBy w1 row := gr_below (World.grownBy.refl w _) hb
theorem gr_set (h : w.grownBy w1 (some g)) (i : Nat) (u : Value) : w.grownBy (w1.setCell ⟨g, i, none⟩ u) (some g) :=
  ⟨h.os, h.tape, h.output, by simpa using h.size, fun k hk hr => (Below.heap_setCell w1 _ u k (fun e => hr (by simpa using e))).trans (h.block k hk hr)⟩
theorem gr_trans (h : w.grownBy w1 row) (k : w1.grownBy w2 row) : w.grownBy w2 row :=
  ⟨k.os.trans h.os, k.tape.trans h.tape, k.output.trans h.output, Nat.le_trans h.size k.size, fun j hj hr => (k.block j (Nat.lt_of_lt_of_le hj h.size) hr).trans (h.block j hj hr)⟩
theorem Cap.grown {gn : Nat} {n : ByteArray} (h : Cap w gn n) (hg : w.grownBy w1 (some g)) (hne : gn ≠ g) : Cap w1 gn n :=
  ⟨Nat.lt_of_lt_of_le h.1 hg.size, hg.cell h.2 (by intro e; injection e with e; exact hne e)⟩
theorem Owns.far {α : Type} {base : Nat} {e : TypeId} {size : Nat} {en : α → List Value} {v : Value} {xs : List α} (h : Owns w base e size en v xs) (hb : Below w.heap.size w w1) : Owns w1 base e size en v xs := h.below hb
end
theorem Owns.cells2 {α : Type} {w : World} {base : Nat} {e : TypeId} {en : α → List Value} {g cap n : Nat} {xs : List α} (hen : ∀ x, (en x).length = 2) (h : Owns w base e 2 en (.slice (some ⟨g, 0, none⟩) n cap) xs) (k : Nat) (hk : k < xs.length) (u0 u1 : Value) (h0 : (en xs[k])[0]? = some u0) (h1 : (en xs[k])[1]? = some u1) :
    w.cell? ⟨g, k * 2, none⟩ = some u0 ∧ w.cell? ⟨g, k * 2 + 1, none⟩ = some u1 ∧ w.frozen? ⟨g, k * 2, none⟩ = false ∧ w.frozen? ⟨g, k * 2 + 1, none⟩ = false := by
  obtain ⟨hb, rfl, hn, hm, cur, hh, hs, ht⟩ := h.row
  have key : ∀ j u, (xs.flatMap en)[j]? = some u → w.cell? ⟨g, j, none⟩ = some u := by
    intro j u hu
    rw [hh.cell j]
    rw [← ht, List.getElem?_take] at hu
    split at hu
    · simpa using hu
    · cases hu
  exact ⟨key _ _ (flat2 hen xs k 0 _ u0 (List.getElem?_eq_getElem hk) (by omega) h0), key _ _ (flat2 hen xs k 1 _ u1 (List.getElem?_eq_getElem hk) (by omega) h1), hh.frozen _, hh.frozen _⟩
def keepN (n : ByteArray) (l : List Fld) : List Fld := l.filter (fun f => !isN n f)
theorem keepN_snoc {n : ByteArray} {l : List Fld} {j : Nat} (h : j < l.length) : keepN n (l.take (j + 1)) = keepN n (l.take j) ++ (if isN n l[j] = true then [] else [l[j]]) := by
  unfold keepN
  rw [List.take_add_one, List.getElem?_eq_getElem h, List.filter_append]
  congr 1
  cases hq : isN n l[j] <;> simp [hq]
theorem keepN_none {n : ByteArray} {l : List Fld} (h : l.any (isN n) = false) : keepN n l = l := by
  unfold keepN
  rw [List.filter_eq_self]
  intro x hx
  rw [List.any_eq_false] at h
  simpa using h x hx
theorem idx_some {p : Fld → Bool} {l : List Fld} (h : l.any p = true) : ∃ k, ∃ hk : k < l.length, idxI p l = (k : Int) ∧ (l.take k).any p = false ∧ p l[k] = true := by
  cases hf : l.findIdx? p with
  | none =>
    rw [List.findIdx?_eq_none_iff] at hf
    rw [List.any_eq_true] at h
    obtain ⟨x, hx, hp⟩ := h
    rw [hf x hx] at hp; cases hp
  | some k =>
    obtain ⟨hk, hp, hj⟩ := List.findIdx?_eq_some_iff_getElem.1 hf
    refine ⟨k, hk, by unfold idxI; rw [hf], ?_, hp⟩
    rw [List.any_eq_false]
    intro x hx
    rw [List.mem_take_iff_getElem] at hx
    obtain ⟨j, hj', rfl⟩ := hx
    exact hj j (by omega)
theorem fld_z : ∀ v ∈ (Value.agg #[Value.string { data := #[] }, Value.string { data := #[] }]).cells.toList, v.oneCell' = true := by simp [Value.cells, Value.oneCell']
end Go.Proofs.YtoalfjkbgeiggaaGreatDoor
namespace Go.Proofs.YtoalfjkbgeiggaaGreatDoor
open Go.RowKit
/-- Drop. -/
def dropF (l : List Fld) (n : ByteArray) : List Fld := keepN (lowS n) l
theorem dropF_len (l : List Fld) (n : ByteArray) : (dropF l n).length ≤ l.length := List.length_filter_le ..
theorem dropF_lims {l : List Fld} (n : ByteArray) (h : Lims l) : Lims (dropF l n) := fun f hf => h f (List.mem_filter.1 hf).1
/-! ### Get -/
def selF (l : List Fld) (n : ByteArray) : List ByteArray := (l.filter (isN (lowS n))).map Prod.snd
def sep2 : ByteArray := ⟨#[44, 32]⟩
theorem selF_take {l : List Fld} {n : ByteArray} {k : Nat} (h : k < l.length) : selF (l.take (k + 1)) n = selF (l.take k) n ++ (if isN (lowS n) l[k] = true then [l[k].2] else []) := by
  unfold selF
  rw [List.take_add_one, List.getElem?_eq_getElem h, List.filter_append, List.map_append]
  congr 1
  cases hq : isN (lowS n) l[k] <;> simp [hq]
theorem selF_len (l : List Fld) (n : ByteArray) : (selF l n).length ≤ l.length := by unfold selF; rw [List.length_map]; exact List.length_filter_le ..
set_option maxHeartbeats 1600000 in
theorem get_any (v : Value) (l : List Fld) (n : ByteArray) (w : World) (h : SlR w e_ss v l) (hl : l.length * 32 ≤ 140737488355328) (hz : Lims l) (hn : n.size ≤ 140737488351232) (hj : (joinL (selF l n) sep2).length ≤ 140737488351232) :
    Calls Tryz.prog 24 #[v, .string n] w fun e w' => e = .returned (.tuple #[.string (joinS (selF l n) sep2), .bool (decide (0 < (selF l n).length))]) ∧ Below w.heap.size w w' := by
  have HS := Lib.hid h
  obtain ⟨A, c, rfl, hcc, -⟩ := h
  go_enter Tryz.func24, Tryz.ntmps24
  go_wp2_with fail
  refine (named_any n _ hn).mono ?_
  rintro e w1 ⟨rfl, hz1, hc1, b1⟩
  have HC := Lib.hid (show Cap w1 w.heap.size (lowS n) from ⟨hz1, hc1⟩)
  have h2 := Lib.hid (fun hn => fld_two (HS.out.below b1) hn)
  clear hc1
  unfold nfn
  go_wp2_with fail
  go_loopw [6, 14] (fun u i wr => ∃ k : Nat, k ≤ l.length ∧ i = .int .i64 k ∧ Owns wr w1.heap.size 9 1 es u (selF (l.take k) n) ∧ Below w1.heap.size w1 wr) (fun _ i _ => l.length - (intOf i).toNat)
  case atStart => exact ⟨0, by omega, rfl, Owns.nil .., Below.refl _ _⟩
  case round =>
    obtain ⟨k, hk, rfl, hown, hbel⟩ := hrel
    have HO := Lib.hid hown
    clear hown
    by_cases hlt : k < l.length
    · obtain ⟨b, o, c', he, hb, hcell⟩ := h2.out (by omega)
      obtain ⟨rfl, rfl⟩ : A = some ⟨b, o, none⟩ ∧ c = c' := by injection he with h1 h2 h3; exact ⟨h1, h3⟩
      obtain ⟨q0, q1⟩ := hcell k hlt
      have c0 := (hbel.cell (p := ⟨b, o + k * 2, none⟩) hb).trans q0
      have c1 := (hbel.cell (p := ⟨b, o + k * 2 + 1, none⟩) hb).trans q1
      clear hcell h2 q0 q1 he
      have HT := Lib.hid (selF_take (n := n) hlt)
      have hsl : (selF (l.take k) n).length ≤ l.length := Nat.le_trans (selF_len _ _) (by simp; omega)
      have hf := hz _ (List.getElem_mem hlt)
      generalize l[k] = f at c0 c1 HT hf
      have b0 : Below wr.heap.size wr (wr.alloc (.cells #[.string f.1, .string f.2] 57)) := (Below.refl _ _).alloc (Nat.le_refl _) _
      have HCr := Lib.hid ((HC.out.below hbel).below b0)
      cases hq : isN (lowS n) f
      all_goals
        have HQ := Lib.hid hq
        clear hq
        go_wp2_with fail
        refine (named1_any f w.heap.size (lowS n) _ HCr.out.1 HCr.out.2 hf).mono ?_
        rintro e w2 ⟨rfl, b2⟩
        rw [HQ.out]
        have bw := b0.trans (b2.mono (by simp))
        have hbb := hbel.trans (bw.mono hbel.size)
        have HO2 := Lib.hid (HO.out.below bw)
        have HT2 := HT.out
        rw [HQ.out] at HT2
        have HT3 := Lib.hid HT2
        clear HT2
      · go_wp2_with fail
        go_roundw
        case rel => exact ⟨k + 1, by omega, by go_num, by rw [HT3.out, if_neg (by decide), List.append_nil]; exact HO2.out, hbb⟩
        case measure => simp [intOf]; omega
      · have e1 : w2.cell? ⟨wr.heap.size, 1, none⟩ = some (.string f.2) := (b2.cell (by simp)).trans (by go_simp)
        go_wp2_with (at_builtin; go_must (refine wpList_append_owns rfl (.tmp 21) (.tmp 24) _ rfl w1.heap.size 9 (.string ByteArray.empty) 1 16 es Tryz.underlying69 stringInfo rfl (by decide) _ _ rfl (HO2.out.alloc _) ⟨w2.heap.size, 0, none⟩ 1 1 [f.2] rfl rfl rfl (new_cells _ [.string f.2] _) (es_one [f.2]) (by simp only [maxLen]; omega) (by omega) (bel_size hbb (Nat.le_refl _) _) ?_); intro v5 w5 hown5 hg5)
        go_roundw
        case rel => exact ⟨k + 1, by omega, by go_num, by rw [HT3.out, if_pos trivial]; exact hown5, bel_append hbb (Nat.le_refl _) HO2.out hg5⟩
        case measure => simp [intOf]; omega
    · have hE : l.take k = l := List.take_of_length_le (by omega)
      rw [hE] at HO
      have hsl : (selF l n).length ≤ l.length := selF_len _ _
      have HF := Lib.hid (SlR.of_owns HO.out)
      obtain ⟨A2, c2, hv, -⟩ := HF.out
      subst hv
      clear hE
      go_wp2_with fail
      refine (join_any _ (selF l n) sep2 _ HF.out (by omega) hj).mono ?_
      rintro e w2 ⟨rfl, b2⟩
      go_wp2_with fail
      go_ret2
      exact ⟨by rfl, (b1.trans (hbel.mono b1.size)).trans (b2.mono (Nat.le_trans b1.size hbel.size))⟩
end Go.Proofs.YtoalfjkbgeiggaaGreatDoor
namespace Go.Proofs.YtoalfjkbgeiggaaGreatDoor
open Go.RowKit
/-- take: what reads; eff: an effect that stands alone; two: either of two effects may be next. -/
inductive Plan where
  | nil
  | take (i : Nat) (p : Plan)
  | eff (i : Nat) (p : Plan)
  | two (i : Nat) (p : Plan) (j : Nat) (q : Plan)
def Plan.length : Plan → Nat
  | .nil => 0
  | .take _ p => p.length + 1
  | .eff _ p => p.length + 1
  | .two _ p _ q => max p.length q.length + 1
section
variable {P : Program} {ops : Array Oper} {Q : Exit → Act → World → Prop} {S : World → Prop}
def seqP (P : Program) (ops : Array Oper) (Q : Exit → Act → World → Prop) (S : World → Prop) : Plan → Act → World → Prop
  | .nil, a, w => Q .normal a w
  | .take i p, a, w => ∃ o v, ops[i]? = some o ∧ YieldsIf P ops S o v a ∧ seqP P ops Q S p (a.put o.dst v) w
  | .eff i p, a, w => wpOp P ops Q i (fun a' w' => S w' ∧ seqP P ops Q S p a' w') a w
  | .two i p j q, a, w => wpOp P ops Q i (fun a' w' => S w' ∧ seqP P ops Q S p a' w') a w ∧ wpOp P ops Q j (fun a' w' => S w' ∧ seqP P ops Q S q a' w') a w
def okPlan (ops : Array Oper) : Plan → Array Bool → Bool
  | .nil, listed => (Region.ready .any ops listed).isEmpty
  | .take i p, listed => (Region.ready .any ops listed).contains i && Region.free .any ops listed i && okPlan ops p (listed.setIfInBounds i true)
  | .eff i p, listed => (Region.ready .any ops listed == [i]) && okPlan ops p (listed.setIfInBounds i true)
  | .two i p j q, listed => (Region.ready .any ops listed == [i, j]) && okPlan ops p (listed.setIfInBounds i true) && okPlan ops q (listed.setIfInBounds j true)
theorem seqP_sound (hs : Region.noSelect ops = true) (hQ : ∀ (d : Option Tmp) (v : Value) c a w, Q (.panic c) (a.put d v) w → Q (.panic c) a w) :
    ∀ (l : Plan) (fuel : Nat) (listed : Array Bool) (a : Act) (w : World), l.length ≤ fuel → okPlan ops l listed = true → S w → seqP P ops Q S l a w → wpAnyH P .any ops Q S fuel listed a w
  | .nil, fuel, listed, a, w, _, hok, _, h => by
    refine wpAnyH_done ?_ h fuel
    simpa [okPlan] using hok
  | .take i l, 0, listed, a, w, hl, _, _, _ => by simp [Plan.length] at hl
  | .take i l, fuel + 1, listed, a, w, hl, hok, hS, h => by
    simp only [okPlan, Bool.and_eq_true] at hok
    obtain ⟨o, v, ho, hy, hr⟩ := h
    exact wpAnyH_take ho hs hok.1.2 hok.1.1 (hQ _ _) hy hS (seqP_sound hs hQ l fuel _ _ w (by simp [Plan.length] at hl; omega) hok.2 hS hr)
  | .eff i l, 0, listed, a, w, hl, _, _, _ => by simp [Plan.length] at hl
  | .eff i l, fuel + 1, listed, a, w, hl, hok, hS, h => by
    simp only [okPlan, Bool.and_eq_true, beq_iff_eq] at hok
    refine wpAnyH_all hok.1 (by simp) fun j hj => ?_
    obtain rfl : j = i := by simpa using hj
    exact wpOp_mono (fun a' w' ⟨h1, h2⟩ => ⟨h1, seqP_sound hs hQ l fuel _ a' w' (by simp [Plan.length] at hl; omega) hok.2 h1 h2⟩) h
  | .two i p j q, 0, listed, a, w, hl, _, _, _ => by simp [Plan.length] at hl
  | .two i p j q, fuel + 1, listed, a, w, hl, hok, hS, h => by
    simp only [okPlan, Bool.and_eq_true, beq_iff_eq] at hok
    refine wpAnyH_all hok.1.1 (by simp) fun k hk => ?_
    have hk' : k = i ∨ k = j := by simpa using hk
    rcases hk' with rfl | rfl
    · exact wpOp_mono (fun a' w' ⟨h1, h2⟩ => ⟨h1, seqP_sound hs hQ p fuel _ a' w' (by simp [Plan.length] at hl; omega) hok.1.2 h1 h2⟩) h.1
    · exact wpOp_mono (fun a' w' ⟨h1, h2⟩ => ⟨h1, seqP_sound hs hQ q fuel _ a' w' (by simp [Plan.length] at hl; omega) hok.2 h1 h2⟩) h.2
theorem wp_region_plan {id : Nat} {a : Act} {w : World} (l : Plan) (S : World → Prop) (hm : P.follows .mixedOrders = true) (hs : Region.noSelect ops = true)
    (hQ : ∀ (d : Tmp) (v : Value) c (a : Act) w, Q (.panic c) { a with tmps := a.tmps.setIfInBounds d v } w → Q (.panic c) a w) (hlen : decide (l.length ≤ ops.size) = true)
    (hok : okPlan ops l (Array.replicate ops.size false) = true) (hS : S w.drew) (h : seqP P ops Q S l a w.drew) : (Code.region id ops true).wp P Q a w :=
  wp_region_held hm (seqP_sound hs (fun d v c a w h => by cases d with | none => exact h | some d => exact hQ d v c a w h) l ops.size _ a w.drew (of_decide_eq_true hlen) hok hS h)
theorem seqP_nil {a : Act} {w : World} (h : Q .normal a w) : seqP P ops Q S .nil a w := h
theorem seqP_take {i : Nat} {o : Oper} {v : Value} {l : Plan} {a : Act} {w : World} (ho : ops[i]? = some o) (hw : Region.wanted o (yielded ops a.tmps) = true)
    (hy : ∀ w', S w' → (execOp a.eval o).run P w' = .ok (.value v) w') (h : seqP P ops Q S l (a.put o.dst v) w) : seqP P ops Q S (.take i l) a w := ⟨o, v, ho, .inl ⟨hw, hy⟩, h⟩
theorem seqP_skip {i : Nat} {o : Oper} {l : Plan} {a : Act} {w : World} (ho : ops[i]? = some o) (hw : Region.wanted o (yielded ops a.tmps) = false)
    (h : seqP P ops Q S l (a.put o.dst undef) w) : seqP P ops Q S (.take i l) a w := ⟨o, undef, ho, .inr ⟨hw, rfl⟩, h⟩
theorem wpOp_eff {i : Nat} {o : Oper} {l : Plan} {a : Act} {w : World} (ho : ops[i]? = some o) (hw : Region.wanted o (yielded ops a.tmps) = true)
    (h : ∀ K : Act → World → Prop, (∀ a' w', S w' ∧ seqP P ops Q S l a' w' → K a' w') → o.wp P a w K Q) : wpOp P ops Q i (fun a' w' => S w' ∧ seqP P ops Q S l a' w') a w := by
  unfold wpOp
  simp only [ho, hw, if_true]
  exact .inl (h _ fun _ _ h => h)
theorem wpOp_pass {i : Nat} {o : Oper} {l : Plan} {a : Act} {w : World} (ho : ops[i]? = some o) (hw : Region.wanted o (yielded ops a.tmps) = false)
    (hS : S w) (h : seqP P ops Q S l (a.put o.dst undef) w) : wpOp P ops Q i (fun a' w' => S w' ∧ seqP P ops Q S l a' w') a w := by
  unfold wpOp
  simp only [ho, hw, Bool.false_eq_true, if_false]
  exact ⟨hS, h⟩
theorem seqP_eff {i : Nat} {o : Oper} {l : Plan} {a : Act} {w : World} (ho : ops[i]? = some o) (hw : Region.wanted o (yielded ops a.tmps) = true)
    (h : ∀ K : Act → World → Prop, (∀ a' w', S w' ∧ seqP P ops Q S l a' w' → K a' w') → o.wp P a w K Q) : seqP P ops Q S (.eff i l) a w := wpOp_eff ho hw h
theorem seqP_pass {i : Nat} {o : Oper} {l : Plan} {a : Act} {w : World} (ho : ops[i]? = some o) (hw : Region.wanted o (yielded ops a.tmps) = false)
    (hS : S w) (h : seqP P ops Q S l (a.put o.dst undef) w) : seqP P ops Q S (.eff i l) a w := wpOp_pass ho hw hS h
theorem seqP_two {i j : Nat} {o o' : Oper} {p q : Plan} {a : Act} {w : World} (ho : ops[i]? = some o) (ho' : ops[j]? = some o') (hw : Region.wanted o (yielded ops a.tmps) = true) (hw' : Region.wanted o' (yielded ops a.tmps) = true)
    (h : ∀ K : Act → World → Prop, (∀ a' w', S w' ∧ seqP P ops Q S p a' w' → K a' w') → o.wp P a w K Q)
    (h' : ∀ K : Act → World → Prop, (∀ a' w', S w' ∧ seqP P ops Q S q a' w' → K a' w') → o'.wp P a w K Q) : seqP P ops Q S (.two i p j q) a w := ⟨wpOp_eff ho hw h, wpOp_eff ho' hw' h'⟩
/-- append as one operation: elements that lie somewhere, onto one's own. -/
theorem wp_append_owns {α : Type} {o : Oper} {a : Act} {w : World} {K : Act → World → Prop} {Q : Exit → Act → World → Prop} (s x : Operand) (t : TypeId)
    (ho : o.op = .call { callee := .builtin .append, args := #[s, x], argTypes := #[t, t] })
    (base : Nat) (e : TypeId) (z : Value) (size bytes : Nat) (enc : α → List Value) (ht : P.underlying t = some (.slice e)) (hi : ElemInfo P e z size bytes)
    (hzs : z.cells.size = size) (hsz : 0 < size) (hen : ∀ x, (enc x).length = size)
    (v : Value) (xs : List α) (hs : a.eval s = v) (hown : Owns w base e size enc v xs)
    (u : Value) (news : List α) (hx : a.eval x = u) (hr : SlR w enc u news) (h1 : ∀ u ∈ news.flatMap enc, u.oneCell' = true)
    (h63 : xs.length + news.length ≤ maxLen) (hbytes : (xs.length + news.length) * bytes ≤ 140737488355328) (hbase : base ≤ w.heap.size)
    (h : ∀ v' w', Owns w' base e size enc v' (xs ++ news) → w.grownBy w' v.ownBlock → K (a.put o.dst v') w') : o.wp P a w K Q := by
  obtain ⟨i, hi0, hz0, hz1, hz2⟩ := info_parts hi
  obtain ⟨A, c, rfl, hc, hA⟩ := hr
  cases A with
  | none =>
    have hn : news = [] := by
      cases news with
      | nil => rfl
      | cons y ys => obtain ⟨b, off, h, _⟩ := hA (by simp); cases h
    subst hn
    have hrun := run_append_nil (P := P) w base t o.type e i size ht hi0 v _ _ hown c
    unfold Oper.wp execOp
    simp only [List.length_nil] at hx
    simp only [ho, resolve, invoke, builtin, Sem.run_bind, Sem.run_pure, Result.andThen_ok, List.map_toArray, List.map_cons, List.map_nil, hs, hx, hrun]
    exact h v w (by simpa using hown) (World.grownBy.refl w _)
  | some ad =>
    refine wp_append_own w s x t ho base e i z size bytes ht hi0 hz0 hz1 hz2 hzs hsz v xs.length _ hs hown ad news.length c (news.flatMap enc) hx (flat_len hen news) (fun j u hu => ?_) h1 h63 hbytes hbase (fun v' w' h2 h3 _ => h v' w' ?_ h3)
    · have hlen : 0 < news.length := by
        cases news with
        | nil => simp at hu
        | cons y ys => simp
      obtain ⟨b, off, hh, _, hcell⟩ := hA hlen
      injection hh with hh
      subst hh
      have e : ((⟨b, off, none⟩ : Addr).add j) = ⟨b, off + j, none⟩ := by unfold Addr.add; split <;> simp_all
      rw [e]
      exact hcell j u hu
    · unfold Owns
      rw [List.length_append, List.flatMap_append]
      exact h2
end
attribute [irreducible] seqP
end Go.Proofs.YtoalfjkbgeiggaaGreatDoor
namespace Go.Proofs.YtoalfjkbgeiggaaGreatDoor
open Go.RowKit
/-- Set: where the first of that name stands. -/
def setF (l : List Fld) (n a : ByteArray) : List Fld :=
  match l.findIdx? (isN (lowS n)) with
  | none => l ++ [(n, a)]
  | some k => l.take k ++ [(n, a)] ++ dropF (l.drop (k + 1)) n
theorem setF_none {l : List Fld} {n : ByteArray} (a : ByteArray) (h : l.any (isN (lowS n)) = false) : setF l n a = l ++ [(n, a)] := by
  unfold setF
  rw [List.findIdx?_eq_none_iff.2]
  intro x hx
  rw [List.any_eq_false] at h
  simpa using h x hx
theorem setF_some {l : List Fld} {n : ByteArray} (a : ByteArray) {k : Nat} (hk : k < l.length) (hi : idxI (isN (lowS n)) l = k) : setF l n a = l.take k ++ [(n, a)] ++ dropF (l.drop (k + 1)) n := by
  unfold setF idxI at *
  split at hi
  · rename_i j hj
    obtain rfl : j = k := by omega
    rw [hj]
  · omega
end Go.Proofs.YtoalfjkbgeiggaaGreatDoor
namespace Go.Proofs.YtoalfjkbgeiggaaGreatDoor
open Go.RowKit
theorem isN_of {n : ByteArray} {f : Fld} : isN n f = decide (lowS f.1 = n) := toList_inj
theorem isN_self (n a : ByteArray) : isN (lowS n) (n, a) = true := by rw [isN_of]; simp
theorem isN_other {n m : ByteArray} (h : lowS m ≠ lowS n) {f : Fld} (hf : isN (lowS n) f = true) : isN (lowS m) f = false := by
  rw [isN_of] at *
  have := of_decide_eq_true hf
  rw [this]
  exact decide_eq_false (fun e => h e.symm)
theorem selF_append (l m : List Fld) (n : ByteArray) : selF (l ++ m) n = selF l n ++ selF m n := by
  unfold selF; rw [List.filter_append, List.map_append]
theorem selF_low (l : List Fld) (n : ByteArray) : selF l (lowS n) = selF l n := by unfold selF; rw [lowS_lowS]
theorem selF_congr (l : List Fld) {n m : ByteArray} (h : lowS n = lowS m) : selF l n = selF l m := by unfold selF; rw [h]
theorem selF_nil_of {l : List Fld} {n : ByteArray} (h : l.any (isN (lowS n)) = false) : selF l n = [] := by
  unfold selF
  rw [List.filter_eq_nil_iff.2, List.map_nil]
  intro x hx
  rw [List.any_eq_false] at h
  exact h x hx
theorem selF_drop_self (l : List Fld) (n : ByteArray) : selF (dropF l n) n = [] := by
  unfold selF dropF keepN
  rw [List.filter_filter]
  rw [List.filter_eq_nil_iff.2, List.map_nil]
  intro x _
  cases isN (lowS n) x <;> simp
theorem selF_drop_other (l : List Fld) {n m : ByteArray} (h : lowS m ≠ lowS n) : selF (dropF l n) m = selF l m := by
  unfold selF dropF keepN
  rw [List.filter_filter]
  congr 1
  apply List.filter_congr
  intro x _
  cases hx : isN (lowS n) x
  · simp
  · simp [isN_other h hx]
theorem dropF_comm (l : List Fld) (a b : ByteArray) : dropF (dropF l a) b = dropF (dropF l b) a := by
  unfold dropF keepN
  rw [List.filter_filter, List.filter_filter]
  apply List.filter_congr
  intro x _
  exact Bool.and_comm ..
theorem dropF_idem (l : List Fld) (a : ByteArray) : dropF (dropF l a) a = dropF l a := by
  unfold dropF keepN
  rw [List.filter_filter]
  apply List.filter_congr
  intro x _
  simp
theorem dropF_low (l : List Fld) (n : ByteArray) : dropF l (lowS n) = dropF l n := by unfold dropF; rw [lowS_lowS]
theorem setF_nil (n a : ByteArray) : setF [] n a = [(n, a)] := rfl
/-- Set's two shapes. -/
theorem setF_shape (l : List Fld) (n : ByteArray) : (l.any (isN (lowS n)) = false ∧ ∀ a, setF l n a = l ++ [(n, a)]) ∨ ∃ k, ∃ hk : k < l.length, (l.take k).any (isN (lowS n)) = false ∧ isN (lowS n) l[k] = true ∧ ∀ a, setF l n a = l.take k ++ [(n, a)] ++ dropF (l.drop (k + 1)) n := by
  by_cases hany : l.any (isN (lowS n)) = true
  · obtain ⟨k, hk, hi, hp, hq⟩ := idx_some hany
    exact .inr ⟨k, hk, hp, hq, fun a => setF_some a hk hi⟩
  · have h : l.any (isN (lowS n)) = false := by simpa using hany
    exact .inl ⟨h, fun a => setF_none a h⟩
theorem setF_len (l : List Fld) (n a : ByteArray) : (setF l n a).length ≤ l.length + 1 := by
  rcases setF_shape l n with ⟨_, h⟩ | ⟨k, hk, _, _, h⟩
  · rw [h]; simp
  · rw [h]; have := dropF_len (l.drop (k + 1)) n; simp at this ⊢; omega
theorem setF_lims {l : List Fld} {n : ByteArray} (a : ByteArray) (h : Lims l) (hn : n.size ≤ 140737488351232) : Lims (setF l n a) := by
  intro f hf
  rcases setF_shape l n with ⟨_, hs⟩ | ⟨k, hk, _, _, hs⟩ <;> rw [hs] at hf
  · rcases List.mem_append.1 hf with h1 | h1
    · exact h f h1
    · rw [List.mem_singleton.1 h1]; exact hn
  · rcases List.mem_append.1 hf with h1 | h1
    · rcases List.mem_append.1 h1 with h1 | h1
      · exact h f (List.mem_of_mem_take h1)
      · rw [List.mem_singleton.1 h1]; exact hn
    · exact h f (List.mem_of_mem_drop (List.mem_filter.1 h1).1)
theorem selF_set_self (l : List Fld) (n a : ByteArray) : selF (setF l n a) n = [a] := by
  have h1 : selF [(n, a)] n = [a] := by unfold selF; simp [isN_self]
  rcases setF_shape l n with ⟨h, hs⟩ | ⟨k, hk, hp, _, hs⟩
  · rw [hs, selF_append, selF_nil_of h, h1]; rfl
  · rw [hs, selF_append, selF_append, selF_nil_of hp, h1, selF_drop_self]; rfl
theorem selF_set_other (l : List Fld) {n m : ByteArray} (a : ByteArray) (h : lowS m ≠ lowS n) : selF (setF l n a) m = selF l m := by
  have h1 : selF [(n, a)] m = [] := by unfold selF; simp [isN_other h (isN_self n a)]
  rcases setF_shape l n with ⟨_, hs⟩ | ⟨k, hk, _, hq, hs⟩
  · rw [hs, selF_append, h1, List.append_nil]
  · rw [hs, selF_append, selF_append, h1, List.append_nil, selF_drop_other _ h]
    conv => rhs; rw [← List.take_append_drop k l, selF_append, List.drop_eq_getElem_cons hk]
    congr 1
    unfold selF
    rw [List.filter_cons, isN_other h hq]
    rfl
theorem any_set (l : List Fld) (n a : ByteArray) : (setF l n a).any (isN (lowS n)) = true := by
  rw [List.any_eq_true]
  rcases setF_shape l n with ⟨_, hs⟩ | ⟨k, hk, _, _, hs⟩ <;> rw [hs]
  · exact ⟨(n, a), by simp, isN_self n a⟩
  · exact ⟨(n, a), by simp, isN_self n a⟩
theorem find_at {p : Fld → Bool} {u v : List Fld} {x : Fld} (hu : u.any p = false) (hx : p x = true) : (u ++ x :: v).findIdx? p = some u.length := by
  rw [List.findIdx?_append, List.findIdx?_cons, hx]
  have : u.findIdx? p = none := by
    rw [List.findIdx?_eq_none_iff]
    intro y hy
    rw [List.any_eq_false] at hu
    simpa using hu y hy
  rw [this]; simp
/-- Set again: it is there instead. -/
theorem setF_set (l : List Fld) (n a b : ByteArray) : setF (setF l n a) n b = setF l n b := by
  have key : ∀ u v : List Fld, u.any (isN (lowS n)) = false → setF (u ++ (n, a) :: v) n b = u ++ [(n, b)] ++ dropF v n := by
    intro u v hu
    unfold setF
    rw [find_at hu (isN_self n a)]
    simp only
    rw [List.take_left' rfl, List.drop_append, List.drop_of_length_le (by omega), show u.length + 1 - u.length = 1 from by omega]
    rfl
  rcases setF_shape l n with ⟨h, hs⟩ | ⟨k, hk, hp, _, hs⟩
  · rw [hs, hs, key l [] h]
    simp [dropF, keepN]
  · rw [hs, hs, List.append_assoc, List.singleton_append, key _ _ hp, dropF_idem]
end Go.Proofs.YtoalfjkbgeiggaaGreatDoor
namespace Go.Proofs.YtoalfjkbgeiggaaGreatDoor
open Go.RowKit
theorem eqGuardFld : (Tryz.prog).eqGuardType (Tryz.prog).depth 57 = false := by kernel_rfl
theorem neqFld (a0 b0 : ByteArray) (a1 b1 : ByteArray) (w : World) : (binOp .neq 57 (.agg #[.string a0, .string a1]) (.agg #[.string b0, .string b1])).run Tryz.prog w = .ok (.bool (!((a0.toList == b0.toList) && (a1.toList == b1.toList)))) w := by
  rw [run_neq_struct, run_equalIn_agg w 9999 57 _ _ (by kernel_rfl) (by kernel_rfl)]
  simp only [Program.fieldsOf, Tryz.underlying57]
  have hus := Tryz.underlying9
  cases h0 : (a0.toList == b0.toList) <;> cases h1 : (a1.toList == b1.toList) <;> go_simp
abbrev ElFld := ByteArray × ByteArray
def sameFld (x y : ElFld) : Bool := (x.1.toList == y.1.toList) && (x.2.toList == y.2.toList)
theorem sameFld_eq (x y : ElFld) : sameFld x y = decide (x = y) := by
  rw [Bool.eq_iff_iff, decide_eq_true_iff]
  obtain ⟨a0, a1⟩ := x
  obtain ⟨b0, b1⟩ := y
  simp only [sameFld, Bool.and_eq_true, beq_iff_eq, Prod.mk.injEq, ba_toList]
  constructor
  · rintro ⟨h0, h1⟩; exact ⟨sl_inj h0, sl_inj h1⟩
  · rintro ⟨rfl, rfl⟩; exact ⟨rfl, rfl⟩
set_option maxRecDepth 8000 in
set_option maxHeartbeats 1600000 in
theorem eqFld_any (v1 v2 : Value) (xs ys : List (ElFld)) (w : World) (h1 : SlR w e_ss v1 xs) (h2 : SlR w e_ss v2 ys) (hx : xs.length ≤ 140737488351232) (hy : ys.length ≤ 140737488351232) :
    Calls Tryz.prog 21 #[v1, v2] w fun e w' => e = .returned (.bool (decide (xs = ys))) ∧ Below w.heap.size w w' := by
  have H1 := Lib.hid (fun hn => h1.two (fun _ => rfl) hn)
  have H2 := Lib.hid (fun hn => h2.two (fun _ => rfl) hn)
  obtain ⟨A, c, rfl, hc, -⟩ := h1
  obtain ⟨B, d, rfl, hd, -⟩ := h2
  by_cases hl : xs.length = ys.length
  · have hL := Lib.hid hl
    have hb : (((xs.length : Nat) : Int) != ((ys.length : Nat) : Int)) = false := by simp [hl]
    clear hl
    go_enter Tryz.func21, Tryz.ntmps21
    go_wp2_with fail
    go_loopw [14] (fun i wr => ∃ k : Nat, k ≤ xs.length ∧ i = .int .i64 k ∧ xs.take k = ys.take k ∧ Below w.heap.size w wr) (fun i _ => xs.length - (intOf i).toNat)
    case atStart => exact ⟨0, by omega, rfl, rfl, Below.refl _ _⟩
    case round =>
      obtain ⟨k, hk, rfl, hEq, hbel⟩ := hrel
      have HE := Lib.hid hEq
      clear hEq
      by_cases hlt : k < xs.length
      · have hlt' : k < ys.length := by rw [← hL.out]; exact hlt
        obtain ⟨b1, o1, c1', he1, hb1, hc1⟩ := H1.out (by omega)
        obtain ⟨b2, o2, c2', he2, hb2, hc2⟩ := H2.out (by omega)
        obtain ⟨rfl, rfl⟩ : A = some ⟨b1, o1, none⟩ ∧ c = c1' := by injection he1 with h1 h2 h3; exact ⟨h1, h3⟩
        obtain ⟨rfl, rfl⟩ : B = some ⟨b2, o2, none⟩ ∧ d = c2' := by injection he2 with h1 h2 h3; exact ⟨h1, h3⟩
        obtain ⟨q0, q1⟩ := hc1 k hlt (.string xs[k].1) (.string xs[k].2) rfl rfl
        obtain ⟨p0, p1⟩ := hc2 k hlt' (.string ys[k].1) (.string ys[k].2) rfl rfl
        have c0 := (hbel.cell (p := ⟨b1, o1 + k * 2, none⟩) hb1).trans q0
        have c1 := (hbel.cell (p := ⟨b1, o1 + k * 2 + 1, none⟩) hb1).trans q1
        have d0 := (hbel.cell (p := ⟨b2, o2 + k * 2, none⟩) hb2).trans p0
        have d1 := (hbel.cell (p := ⟨b2, o2 + k * 2 + 1, none⟩) hb2).trans p1
        clear hc1 hc2 q0 q1 p0 p1 he1 he2 H1 H2
        have hb2' : b2 < wr.heap.size := Nat.lt_of_lt_of_le hb2 hbel.size
        have HTK : Hid (xs.take (k + 1) = ys.take (k + 1) ↔ xs[k] = ys[k]) := by
          show _ ↔ _
          rw [List.take_succ_eq_append_getElem hlt, List.take_succ_eq_append_getElem hlt', HE.out]
          exact ⟨fun h => by have := List.append_cancel_left h; injection this, fun h => by rw [h]⟩
        have HNE : Hid (xs[k] ≠ ys[k] → decide (xs = ys) = false) := fun h => by
          rw [decide_eq_false_iff_not]; rintro rfl; exact h rfl
        generalize xs[k] = x at *
        generalize ys[k] = y at *
        have HSM := Lib.hid (sameFld_eq x y)
        have b0 : Below wr.heap.size wr (wr.alloc (Obj.cells #[.string x.1, .string x.2] 57)) := (Below.refl _ _).alloc (Nat.le_refl _) _
        have HC := Lib.hid (fun w' (hb : Below (wr.alloc (Obj.cells #[.string x.1, .string x.2] 57)).heap.size (wr.alloc (Obj.cells #[.string x.1, .string x.2] 57)) w') => show w'.cell? ⟨wr.heap.size, 0, none⟩ = some (.string x.1) ∧ w'.cell? ⟨wr.heap.size, 1, none⟩ = some (.string x.2) ∧ w'.cell? ⟨b2, o2 + k * 2, none⟩ = some (.string y.1) ∧ w'.cell? ⟨b2, o2 + k * 2 + 1, none⟩ = some (.string y.2) from ⟨(hb.cell (by simp)).trans (by go_simp), (hb.cell (by simp)).trans (by go_simp), (hb.cell (by simp; omega)).trans ((b0.cell hb2').trans d0), (hb.cell (by simp; omega)).trans ((b0.cell hb2').trans d1)⟩)
        clear d0 d1
        go_wp2_with fail
        have g1 := eqGuardFld
        have g2 := neqFld
        clear c0 c1
        cases hs : sameFld x y
        all_goals
          have hs' := hs
          unfold sameFld at hs'
          have hsm := HSM.out
          rw [hs] at hsm
          have HS := Lib.hid hsm
          have hnn : (!((x.1.toList == y.1.toList) && (x.2.toList == y.2.toList))) = !(sameFld x y) := rfl
          rw [hs] at hnn
          clear hs hs' hsm
          refine wp_region_seq [(true, 0), (true, 1), (true, 2), (true, 3), (true, 4), (true, 5)] (fun w' => Below (wr.alloc (Obj.cells #[.string x.1, .string x.2] 57)).heap.size (wr.alloc (Obj.cells #[.string x.1, .string x.2] 57)) w') (by kernel_rfl) (by kernel_rfl) (fun _ _ _ _ _ h => h) (by kernel_rfl) (by kernel_rfl) (by first | exact (Below.refl _ _).drew | exact Below.drew (by assumption)) ?_
          have bS : Below (wr.alloc (Obj.cells #[.string x.1, .string x.2] 57)).heap.size (wr.alloc (Obj.cells #[.string x.1, .string x.2] 57)) _ := (by first | exact Below.drew (by assumption) | exact (Below.refl _ (wr.alloc (Obj.cells #[.string x.1, .string x.2] 57))).drew)
          iterate 6 (first
            | (apply seqH_skip; (focus (simp only [List.getElem?_toArray, List.getElem?_cons_succ, List.getElem?_cons_zero]; rfl)); (focus rfl); simp only [Act.put, List.setIfInBounds_toArray, List.set_cons_zero, List.set_cons_succ])
            | (apply seqH_take; (focus (simp only [List.getElem?_toArray, List.getElem?_cons_succ, List.getElem?_cons_zero]; rfl)); (focus rfl); (focus (intro w' hS; obtain ⟨e0, e1, e2, e3⟩ := HC.out _ hS; have e99 := g2 x.1 y.1 x.2 y.2 w'; rw [hnn] at e99; first | (go_simp; rfl) | (go_simp; done))); simp only [Act.put, List.setIfInBounds_toArray, List.set_cons_zero, List.set_cons_succ])
            | (apply seqH_pass; (focus (simp only [List.getElem?_toArray, List.getElem?_cons_succ, List.getElem?_cons_zero]; rfl)); (focus rfl); (focus assumption); simp only [Act.put, List.setIfInBounds_toArray, List.set_cons_zero, List.set_cons_succ])
            | (apply seqH_eff; (focus (simp only [List.getElem?_toArray, List.getElem?_cons_succ, List.getElem?_cons_zero]; rfl)); (focus rfl); intro K hK; go_simp; fail; rintro e wN ⟨rfl, bN⟩; refine hK _ _ (seq_next (by assumption) bN (fun bS' => ?_)); clear hK K))
          refine seqH_nil ?_
          go_wp2_with fail
        · go_ret
          exact ⟨ret_bool (HNE.out (fun h => by have := HS.out; rw [decide_eq_true h] at this; cases this)).symm, (hbel.trans (b0.mono hbel.size)).trans (Below.mono (by assumption) (by simp; exact Nat.le_trans hbel.size (Nat.le_succ _)))⟩
        · go_roundw
          case rel => exact ⟨k + 1, by omega, by go_num, HTK.out.2 (of_decide_eq_true HS.out.symm), (hbel.trans (b0.mono hbel.size)).trans (Below.mono (by assumption) (by simp; exact Nat.le_trans hbel.size (Nat.le_succ _)))⟩
          case measure => simp [intOf]; omega
      · have HF : Hid (decide (xs = ys) = true) := by
          show _ = _
          rw [decide_eq_true_iff]
          have := HE.out
          rw [List.take_of_length_le (by omega), List.take_of_length_le (by rw [← hL.out]; omega)] at this
          exact this
        go_wp2_with fail
        go_ret
        exact ⟨ret_bool HF.out.symm, hbel⟩
  · have hb : (((xs.length : Nat) : Int) != ((ys.length : Nat) : Int)) = true := by simp; omega
    have HF : Hid (decide (xs = ys) = false) := by
      show _ = _
      rw [decide_eq_false_iff_not]; rintro rfl; exact hl rfl
    clear hl
    go_enter Tryz.func21, Tryz.ntmps21
    go_wp2_with fail
    go_ret
    exact ⟨ret_bool HF.out.symm, Below.refl _ _⟩
end Go.Proofs.YtoalfjkbgeiggaaGreatDoor
namespace Go.Proofs.YtoalfjkbgeiggaaGreatDoor
open Go.RowKit
theorem joinS_one (a sep : ByteArray) : joinS [a] sep = a := by
  unfold joinS joinL; rw [List.map_singleton, Lib.join_one, mkS_sl]
theorem joinL_one (a sep : ByteArray) : (joinL [a] sep).length = a.size := by
  unfold joinL; rw [List.map_singleton, Lib.join_one, sl_len]
/-- Get, where just one field bears the name. -/
theorem get_one (v : Value) (l : List Fld) (n a : ByteArray) (w : World) (h : SlR w e_ss v l) (hl : l.length * 32 ≤ 140737488355328) (hz : Lims l) (hn : n.size ≤ 140737488351232) (hs : selF l n = [a]) (ha : a.size ≤ 140737488351232) :
    Calls Tryz.prog 24 #[v, .string n] w fun e w' => e = .returned (.tuple #[.string a, .bool true]) ∧ Below w.heap.size w w' := by
  refine (get_any v l n w h hl hz hn (by rw [hs, joinL_one]; exact ha)).mono ?_
  rintro e w' ⟨rfl, hb⟩
  exact ⟨by rw [hs, joinS_one]; rfl, hb⟩
theorem selF_sum (l : List Fld) (n : ByteArray) : ((selF l n).map (fun x => x.size + sep2.size)).sum ≤ (l.map (fun f => f.2.size + 2)).sum := by
  induction l with
  | nil => simp [selF]
  | cons f l ih =>
    have e : selF (f :: l) n = selF [f] n ++ selF l n := by rw [← selF_append]; rfl
    rw [e, List.map_append, List.sum_append, List.map_cons, List.sum_cons]
    have h2 : sep2.size = 2 := rfl
    have : ((selF [f] n).map (fun x => x.size + sep2.size)).sum ≤ f.2.size + 2 := by
      unfold selF
      cases hq : isN (lowS n) f <;> simp [hq, h2]
    omega
theorem selF_join (l : List Fld) (n : ByteArray) : (joinL (selF l n) sep2).length ≤ (l.map (fun f => f.2.size + 2)).sum := Nat.le_trans (joinL_len _ _) (selF_sum l n)
end Go.Proofs.YtoalfjkbgeiggaaGreatDoor
namespace Go.Proofs.YtoalfjkbgeiggaaGreatDoor
open Go.RowKit
theorem join_both : ∀ (xs ys : List (List UInt8)) (sep : List UInt8), xs ≠ [] → ys ≠ [] → Lib.join (xs ++ ys) sep = Lib.join xs sep ++ sep ++ Lib.join ys sep
  | [], _, _, h, _ => absurd rfl h
  | x :: xs, [], _, _, h => absurd rfl h
  | x :: xs, y :: ys, sep, _, _ => by
    rw [List.cons_append, Lib.join_cons, Lib.join_cons, Lib.join_cons]
    simp [Lib.joinTail]
theorem joinS_both (xs ys : List ByteArray) (sep : ByteArray) (hx : xs ≠ []) (hy : ys ≠ []) : joinS (xs ++ ys) sep = joinS xs sep ++ sep ++ joinS ys sep := by
  apply sl_inj
  simp only [joinS, joinL, sl_append, sl_mkS, List.map_append]
  exact join_both _ _ _ (by simpa using hx) (by simpa using hy)
theorem selF_xy : selF [(⟨#[120]⟩, ⟨#[121]⟩)] ⟨#[88]⟩ = [⟨#[121]⟩] := by kernel_rfl
theorem get_xy (v : Value) (w : World) (h : SlR w e_ss v [(⟨#[120]⟩, ⟨#[121]⟩)]) :
    Calls Tryz.prog 24 #[v, .string ⟨#[88]⟩] w fun e w' => e = .returned (.tuple #[.string ⟨#[121]⟩, .bool true]) ∧ Below w.heap.size w w' :=
  get_one v _ _ _ w h (by decide) (fun f hf => by rw [List.mem_singleton.1 hf]; decide) (by decide) selF_xy (by decide)
end Go.Proofs.YtoalfjkbgeiggaaGreatDoor
