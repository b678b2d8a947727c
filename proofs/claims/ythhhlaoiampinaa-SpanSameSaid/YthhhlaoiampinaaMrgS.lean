/- slices.SortFunc by Merge's order, over slices of one's own. -/
import Derived.Test.YthhhlaoiampinaaMrgR
import Derived.Test.YthhhlaoiampinaaSortK
namespace Go.Proofs.Ythhhlaoiampinaa
set_option maxRecDepth 20000
open Go.RowKit
namespace Mrg
open Go.Sort (grow flatK get_flatK size_flatK HoldsK)
theorem flat_get {l : List (Int × Int)} {t : Nat} (ht : t < l.length * 2) : (l.flatMap e_ii)[t]? = some ((flatK e_ii 2 l.toArray)[t]!) := by
  have hk : t / 2 < l.length := by omega
  rw [get_flatK _ _ _ _ (by simpa using ht)]
  have hg : l.toArray[t / 2]! = l[t / 2] := by rw [getElem!_pos l.toArray (t / 2) (by simpa using hk)]; simp
  rw [hg]
  have h2 : t % 2 < 2 := Nat.mod_lt _ (by decide)
  have := flat2 (en := e_ii) (fun _ => rfl) l (t / 2) (t % 2) l[t / 2] (e_ii l[t / 2])[t % 2]! (List.getElem?_eq_getElem hk) h2 (by
    have h3 : t % 2 < (e_ii l[t / 2]).length := h2
    rw [List.getElem?_eq_getElem h3, getElem!_pos (e_ii l[t / 2]) (t % 2) h3])
  rwa [show t / 2 * 2 + t % 2 = t by omega] at this
theorem holds_of {w : World} {base g cap : Nat} {l : List (Int × Int)} (h : Owns w base 26 2 e_ii (.slice (some ⟨g, 0, none⟩) l.length cap) l) : HoldsK e_ii 2 w g 0 l.toArray := by
  obtain ⟨-, -, hc, -, cur, hb, hs, ht⟩ := h.row
  intro j hj
  rw [size_flatK] at hj
  have hj' : j < l.length * 2 := by simpa using hj
  refine ⟨?_, by have := hb.frozen (0 + j); exact this⟩
  rw [hb.cell (0 + j), Nat.zero_add]
  have h1 := flat_get hj'
  rw [← ht, List.getElem?_take, if_pos hj', Array.getElem?_toList] at h1
  exact h1
theorem own_of {w : World} {base g cap n : Nat} {l : List (Int × Int)} {d : Array (Int × Int)} {os : Array Obj} (h : Owns w base 26 2 e_ii (.slice (some ⟨g, 0, none⟩) l.length cap) l) (hd : d.size = l.length) :
    Owns (sortWorldK e_ii 2 w g 0 n d os) base 26 2 e_ii (.slice (some ⟨g, 0, none⟩) l.length cap) d.toList ∧ w.grownBy (sortWorldK e_ii 2 w g 0 n d os) (some g) := by
  have hH := holds_of h
  obtain ⟨hbg, -, hc, hm, cur, hb, hs, ht⟩ := h.row
  have hlt := hb.lt
  have hblk : Blk (sortWorldK e_ii 2 w g 0 n d os) g 26 (Go.Sort.putCells id 0 (flatK e_ii 2 d) cur) := by
    show (w.heap.modify g _ ++ os)[g]? = _
    rw [Array.getElem?_append_left (by simpa using hlt), Array.getElem?_modify, if_pos rfl]
    unfold Blk at hb
    rw [hb]; rfl
  have hH2 := holdsK_sortWorldK_c e_ii 2 w g 0 l.toArray d n os hH hlt (by simpa using hd)
  have hsz : (Go.Sort.putCells id 0 (flatK e_ii 2 d) cur).size = cap * 2 := by unfold Go.Sort.putCells; rw [Array.size_mapIdx, hs]
  refine ⟨?_, ?_⟩
  · have hlen : d.toList.length = l.length := by simpa using hd
    rw [← hlen]
    refine Owns.of_row (fun _ => rfl) hbg (by rw [hlen]; exact hc) hm hblk hsz ?_
    apply List.ext_getElem?
    intro t
    rw [List.getElem?_take]
    split
    · rename_i ht2
      have h1 := (hH2 t (by rw [size_flatK]; simpa using ht2)).1
      rw [hblk.cell (0 + t), Nat.zero_add] at h1
      rw [Array.getElem?_toList, h1, flat_get ht2]
      simp
    · rename_i ht2
      rw [List.getElem?_eq_none]
      rw [flat_len (en := e_ii) (size := 2) (fun _ => rfl)]; omega
  · refine ⟨rfl, rfl, rfl, size_sortWorldK_c e_ii 2 w g 0 n d os, fun k hk hne => ?_⟩
    show (w.heap.modify g _ ++ os)[k]? = _
    rw [Array.getElem?_append_left (by simpa using hk), Array.getElem?_modify, if_neg (fun e => hne (by rw [e]))]
theorem aggSlc : ∀ w, (isAgg (Try.laysSortK_ren.t 24)).run Try.prog w = .ok true w := by
  intro w
  show (isAgg 26).run Try.prog w = _
  simp [isAgg, run_underlying Try.underlying26, go_sem]
theorem sizeSlc : ∀ w, (Go.sizeOf (Try.laysSortK_ren.t 24)).run Try.prog w = .ok 2 w := by
  intro w
  show (Go.sizeOf 26).run Try.prog w = _
  have h : (Try.prog.info? 26).map (·.size) = some 2 := by kernel_rfl
  cases hq : Try.prog.info? 26 with
  | none => rw [hq] at h; cases h
  | some j =>
    rw [hq] at h
    have : j.size = 2 := by simpa using h
    simp [Go.sizeOf, typeInfo, hq, this]
theorem sortSlc_any (v : Value) (l : List (Int × Int)) (base : Nat) (w : World) (h : Owns w base 26 2 e_ii v l) (hl : l.length ≤ 140737488355328) :
    Calls Try.prog 32 #[v, .func (.func 33) #[] #[]] w fun e w' => e = .returned (.tuple #[]) ∧ (∃ d : List (Int × Int), d.Perm l ∧ d.Pairwise (fun a b => a.1 ≤ b.1) ∧ Owns w' base 26 2 e_ii v d) ∧ w.grownBy w' v.ownBlock := by
  rcases h.form with ⟨rfl, rfl⟩ | ⟨g, cap, rfl⟩
  · refine (Try.slices_SortFunc_none none 0 _ w).mono ?_
    rintro e w' ⟨rfl, rfl⟩
    exact ⟨rfl, ⟨[], List.Perm.refl _, List.Pairwise.nil, h⟩, World.grownBy.refl _ _⟩
  · have hlt := (h.lt g rfl).2
    refine ((Try.slices_SortFunc_struct 2 aggSlc sizeSlc e_ii (fun _ => rfl) (fun x v hv => by simp [e_ii] at hv; rcases hv with rfl | rfl <;> rfl) cfM swoM 33 #[] g 0 cap l.toArray w (enters_of Try.func33 (by kernel_rfl) rfl) (fun m os dk hs x y => merge2_any x y _) (holds_of h) hlt (by simp; omega))).mono ?_
    rintro e w' ⟨rfl, d, n, os, hp, hs, rfl⟩
    obtain ⟨hz, -, hp2⟩ := hp
    have hzl : d.size = l.length := by simpa using hz
    obtain ⟨ho, hg⟩ := own_of (n := n) (os := os) h hzl
    refine ⟨rfl, ⟨d.toList, ?_, ?_, ho⟩, hg⟩
    · have e1 : d.extract 0 l.toArray.size = d := by rw [← hz]; simp
      have e2 : l.toArray.extract 0 l.toArray.size = l.toArray := by simp
      rw [e1, e2] at hp2
      exact hp2
    · rw [List.pairwise_iff_getElem]
      intro i j hi hj hij
      have hi' : i < d.size := by simpa using hi
      have hj' : j < d.size := by simpa using hj
      have h1 := hs i j (Nat.zero_le _) hij (by rw [← hz]; exact hj')
      rw [ltM, getElem!_pos d j hj', getElem!_pos d i hi'] at h1
      simp at h1
      simp
      omega
end Mrg
end Go.Proofs.Ythhhlaoiampinaa
