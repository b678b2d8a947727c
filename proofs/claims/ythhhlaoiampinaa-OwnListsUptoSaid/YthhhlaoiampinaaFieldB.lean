/- slices.IndexFunc, Clone, DeleteFunc over fields, by name. -/
import Derived.Test.YthhhlaoiampinaaFieldA
import Derived.Test.YthhhlaoiampinaaRows2
import Derived.WalkSpells
namespace Go.Proofs.Ythhhlaoiampinaa
open Go.RowKit
/-- The index of the first one, or -1. -/
def idxI (p : Fld → Bool) (l : List Fld) : Int := match l.findIdx? p with | some k => (k : Int) | none => -1
theorem idx_no {p : Fld → Bool} {l : List Fld} (h : l.any p = false) : idxI p l = -1 := by
  unfold idxI
  rw [List.findIdx?_eq_none_iff.2]
  intro x hx
  rw [List.any_eq_false] at h
  simpa using h x hx
theorem idx_yes {p : Fld → Bool} {l : List Fld} {k : Nat} (hk : k < l.length) (h : (l.take k).any p = false) (hp : p l[k] = true) : idxI p l = k := by
  have e : l.findIdx? p = some k := List.findIdx?_eq_some_iff_getElem.2 ⟨hk, hp, fun j hj => by
    rw [List.any_eq_false] at h
    simpa using h _ (by rw [List.mem_take_iff_getElem]; exact ⟨j, by omega, rfl⟩)⟩
  unfold idxI
  rw [e]
/-- The name that a function value has captured. -/
def Cap (w : World) (g : Nat) (n : ByteArray) : Prop := g < w.heap.size ∧ w.cell? ⟨g, 0, none⟩ = some (.string n)
theorem Cap.below {w w' : World} {g : Nat} {n : ByteArray} (h : Cap w g n) (hb : Below w.heap.size w w') : Cap w' g n :=
  ⟨Nat.lt_of_lt_of_le h.1 hb.size, (hb.cell h.1).trans h.2⟩
theorem Cap.far {w : World} {g : Nat} {n : ByteArray} (h : Cap w g n) {p : Addr} (hp : p.block ≠ g) (u : Value) : Cap (w.setCell p u) g n :=
  ⟨by simpa using h.1, (World.cell?_setCell_far _ _ _ _ hp).trans h.2⟩
theorem fld_two {w : World} {v : Value} {l : List Fld} (h : SlR w e_ss v l) (hn : 0 < l.length) :
    ∃ b off c, v = .slice (some ⟨b, off, none⟩) l.length c ∧ b < w.heap.size ∧ ∀ k (hk : k < l.length), w.cell? ⟨b, off + k * 2, none⟩ = some (.string l[k].1) ∧ w.cell? ⟨b, off + k * 2 + 1, none⟩ = some (.string l[k].2) := by
  obtain ⟨b, off, c, h1, h2, h3⟩ := h.two (fun _ => rfl) hn
  exact ⟨b, off, c, h1, h2, fun k hk => h3 k hk _ _ rfl rfl⟩
def Lims (l : List Fld) : Prop := ∀ f ∈ l, f.1.size ≤ 140737488351232
set_option maxHeartbeats 800000 in
theorem indexFld_any (v : Value) (l : List Fld) (g : Nat) (n : ByteArray) (w : World) (h : SlR w e_ss v l) (hl : l.length ≤ 140737488351232) (hz : Lims l) (hc : Cap w g n) :
    Calls Try.prog 36 #[v, nfn g] w fun e w' => e = .returned (.int .i64 (idxI (isN n) l)) ∧ Below w.heap.size w w' := by
  have h2 := Lib.hid (fun hn => fld_two h hn)
  obtain ⟨A, c, rfl, hcc, -⟩ := h
  have HC := Lib.hid hc
  clear hc
  unfold nfn
  go_enter Try.func36, Try.ntmps36
  go_wp2_with fail
  go_loopw [8] (fun i wr => ∃ k : Nat, k ≤ l.length ∧ i = .int .i64 k ∧ (l.take k).any (isN n) = false ∧ Below w.heap.size w wr) (fun i _ => l.length - (intOf i).toNat)
  case atStart => exact ⟨0, by omega, rfl, rfl, Below.refl _ _⟩
  case round =>
    obtain ⟨k, hk, rfl, hN, hbel⟩ := hrel
    have HN := Lib.hid hN
    clear hN
    by_cases hlt : k < l.length
    · obtain ⟨b, o, c', he, hb, hcell⟩ := h2.out (by omega)
      obtain ⟨rfl, rfl⟩ : A = some ⟨b, o, none⟩ ∧ c = c' := by injection he with h1 h2 h3; exact ⟨h1, h3⟩
      obtain ⟨q0, q1⟩ := hcell k hlt
      have c0 := (hbel.cell (p := ⟨b, o + k * 2, none⟩) hb).trans q0
      have c1 := (hbel.cell (p := ⟨b, o + k * 2 + 1, none⟩) hb).trans q1
      clear hcell h2 q0 q1 he
      have HT : Hid ((l.take (k + 1)).any (isN n) = isN n l[k]) := by
        show _ = _; rw [List.take_add_one, List.getElem?_eq_getElem hlt, List.any_append, HN.out]; simp
      have HI : Hid (isN n l[k] = true → idxI (isN n) l = k) := fun hp => idx_yes hlt HN.out hp
      have hf := hz _ (List.getElem_mem hlt)
      generalize l[k] = f at c0 c1 HT HI hf
      cases hq : isN n f
      all_goals
        have HQ := Lib.hid hq
        clear hq
        go_wp2_with fail
        refine (named1_any f g n _ (HC.out.below hbel).1 (HC.out.below hbel).2 hf).mono ?_
        rintro e w1 ⟨rfl, b1⟩
        rw [HQ.out]
        go_wp2_with fail
      · go_roundw
        case rel => exact ⟨k + 1, by omega, by go_num, by rw [HT.out, HQ.out], hbel.trans (b1.mono hbel.size)⟩
        case measure => simp [intOf]; omega
      · go_ret
        exact ⟨ret_int (HI.out HQ.out).symm, hbel.trans (b1.mono hbel.size)⟩
    · have HA : Hid (idxI (isN n) l = -1) := idx_no (by have := HN.out; rwa [List.take_of_length_le (by omega)] at this)
      go_wp2_with fail
      go_ret
      exact ⟨ret_int HA.out.symm, hbel⟩
theorem fldInfoB : ElemInfo Try.prog 31 (.agg #[.string ByteArray.empty, .string ByteArray.empty]) 2 32 := by unfold ElemInfo; kernel_rfl
theorem ss_oneB (l : List Fld) : ∀ u ∈ l.flatMap e_ss, u.oneCell' = true := by
  intro u hu
  obtain ⟨d, _, hd⟩ := List.mem_flatMap.1 hu
  simp only [e_ss, List.mem_cons, List.not_mem_nil, or_false] at hd
  rcases hd with rfl | rfl <;> rfl
/-- A slice of the call's own that holds these fields. -/
def RetFlds (base : Nat) (l : List Fld) (e : Ending) (w' : World) : Prop := ∃ u, e = .returned u ∧ Owns w' base 31 2 e_ss u l
set_option maxHeartbeats 800000 in
/-- slices.Clone. -/
theorem cloneFld_any (v : Value) (l : List Fld) (w : World) (h : SlR w e_ss v l) (hl : l.length * 32 ≤ 140737488355328) :
    Calls Try.prog 38 #[v] w fun e w' => RetFlds w.heap.size l e w' ∧ Below w.heap.size w w' := by
  have HS := Lib.hid h
  obtain ⟨A, c, rfl, hcc, -⟩ := h
  have hen := Lib.run_eql_slice_nil (P := Try.prog)
  cases A with
  | none =>
    have hl0 : l = [] := by
      obtain ⟨A, c, hv, hc, hx⟩ := HS.out
      cases l with
      | nil => rfl
      | cons y ys =>
        obtain ⟨b, off, hA, _⟩ := hx (by simp)
        subst hA
        injection hv with h1
        cases h1
    subst hl0
    go_enter Try.func38, Try.ntmps38
    go_wp2_with fail
    go_ret
    exact ⟨⟨_, rfl, Owns.nil ..⟩, Below.refl _ _⟩
  | some a =>
    have hb0 : Below w.heap.size w (w.alloc (.cells #[] 31)) := (Below.refl _ _).alloc (Nat.le_refl _) _
    have HO := Lib.hid (Owns.lit (size := 2) (enc := e_ss) (e := 31) w w.heap.size #[] [] (Nat.le_refl _) (by simp) rfl rfl)
    have HS' := Lib.hid (HS.out.alloc (.cells #[] 31))
    go_enter Try.func38, Try.ntmps38
    go_wp2_with (at_builtin; go_must (refine wpList_append_slr rfl (.tmp 5) (.tmp 6) _ rfl w.heap.size 31 (.agg #[.string ByteArray.empty, .string ByteArray.empty]) 2 32 e_ss Try.underlying29 fldInfoB rfl (by decide) (fun _ => rfl) _ [] rfl HO.out _ l rfl HS'.out (ss_oneB l) (by simp [maxLen]; omega) (by simp; omega) (by simp) ?_); intro v' w2 hown' hgrow)
    go_ret
    exact ⟨⟨_, rfl, hown'⟩, hb0.grown hgrow (by simp) (fun k hk => (HO.out.lt k hk).1)⟩
end Go.Proofs.Ythhhlaoiampinaa
