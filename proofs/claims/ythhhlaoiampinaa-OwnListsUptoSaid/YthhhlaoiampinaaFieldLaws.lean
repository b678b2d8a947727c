/- Plain laws of fields: what Set, Drop and Get are to each other. -/
import Derived.Test.YthhhlaoiampinaaFieldE
namespace Go.Proofs.Ythhhlaoiampinaa
open Go.RowKit
theorem isN_of {n : ByteArray} {f : Fld} : isN n f = decide (lowS f.1 = n) := toList_inj
theorem isN_self (n a : ByteArray) : isN (lowS n) (n, a) = true := by rw [isN_of]; simp
theorem isN_other {n m : ByteArray} (h : lowS m ≠ lowS n) {f : Fld} (hf : isN (lowS n) f = true) : isN (lowS m) f = false := by
  rw [isN_of] at *
  have := of_decide_eq_true hf
  rw [this]
  exact decide_eq_false (fun e => h e.symm)
theorem selF_append (l m : List Fld) (n : ByteArray) : selF (l ++ m) n = selF l n ++ selF m n := by
  unfold selF; rw [List.filter_append, List.map_append]
theorem selF_low (l : List Fld) (n : ByteArray) : selF l (lowS n) = selF l n := by unfold selF; rw [lowS_lowS]
theorem selF_congr (l : List Fld) {n m : ByteArray} (h : lowS n = lowS m) : selF l n = selF l m := by unfold selF; rw [h]
theorem selF_nil_of {l : List Fld} {n : ByteArray} (h : l.any (isN (lowS n)) = false) : selF l n = [] := by
  unfold selF
  rw [List.filter_eq_nil_iff.2, List.map_nil]
  intro x hx
  rw [List.any_eq_false] at h
  exact h x hx
theorem selF_drop_self (l : List Fld) (n : ByteArray) : selF (dropF l n) n = [] := by
  unfold selF dropF keepN
  rw [List.filter_filter]
  rw [List.filter_eq_nil_iff.2, List.map_nil]
  intro x _
  cases isN (lowS n) x <;> simp
theorem selF_drop_other (l : List Fld) {n m : ByteArray} (h : lowS m ≠ lowS n) : selF (dropF l n) m = selF l m := by
  unfold selF dropF keepN
  rw [List.filter_filter]
  congr 1
  apply List.filter_congr
  intro x _
  cases hx : isN (lowS n) x
  · simp
  · simp [isN_other h hx]
theorem dropF_comm (l : List Fld) (a b : ByteArray) : dropF (dropF l a) b = dropF (dropF l b) a := by
  unfold dropF keepN
  rw [List.filter_filter, List.filter_filter]
  apply List.filter_congr
  intro x _
  exact Bool.and_comm ..
theorem dropF_idem (l : List Fld) (a : ByteArray) : dropF (dropF l a) a = dropF l a := by
  unfold dropF keepN
  rw [List.filter_filter]
  apply List.filter_congr
  intro x _
  simp
theorem dropF_low (l : List Fld) (n : ByteArray) : dropF l (lowS n) = dropF l n := by unfold dropF; rw [lowS_lowS]
theorem setF_nil (n a : ByteArray) : setF [] n a = [(n, a)] := rfl
/-- Set's two shapes. -/
theorem setF_shape (l : List Fld) (n : ByteArray) : (l.any (isN (lowS n)) = false ∧ ∀ a, setF l n a = l ++ [(n, a)]) ∨ ∃ k, ∃ hk : k < l.length, (l.take k).any (isN (lowS n)) = false ∧ isN (lowS n) l[k] = true ∧ ∀ a, setF l n a = l.take k ++ [(n, a)] ++ dropF (l.drop (k + 1)) n := by
  by_cases hany : l.any (isN (lowS n)) = true
  · obtain ⟨k, hk, hi, hp, hq⟩ := idx_some hany
    exact .inr ⟨k, hk, hp, hq, fun a => setF_some a hk hi⟩
  · have h : l.any (isN (lowS n)) = false := by simpa using hany
    exact .inl ⟨h, fun a => setF_none a h⟩
theorem setF_len (l : List Fld) (n a : ByteArray) : (setF l n a).length ≤ l.length + 1 := by
  rcases setF_shape l n with ⟨_, h⟩ | ⟨k, hk, _, _, h⟩
  · rw [h]; simp
  · rw [h]; have := dropF_len (l.drop (k + 1)) n; simp at this ⊢; omega
theorem setF_lims {l : List Fld} {n : ByteArray} (a : ByteArray) (h : Lims l) (hn : n.size ≤ 140737488351232) : Lims (setF l n a) := by
  intro f hf
  rcases setF_shape l n with ⟨_, hs⟩ | ⟨k, hk, _, _, hs⟩ <;> rw [hs] at hf
  · rcases List.mem_append.1 hf with h1 | h1
    · exact h f h1
    · rw [List.mem_singleton.1 h1]; exact hn
  · rcases List.mem_append.1 hf with h1 | h1
    · rcases List.mem_append.1 h1 with h1 | h1
      · exact h f (List.mem_of_mem_take h1)
      · rw [List.mem_singleton.1 h1]; exact hn
    · exact h f (List.mem_of_mem_drop (List.mem_filter.1 h1).1)
theorem selF_set_self (l : List Fld) (n a : ByteArray) : selF (setF l n a) n = [a] := by
  have h1 : selF [(n, a)] n = [a] := by unfold selF; simp [isN_self]
  rcases setF_shape l n with ⟨h, hs⟩ | ⟨k, hk, hp, _, hs⟩
  · rw [hs, selF_append, selF_nil_of h, h1]; rfl
  · rw [hs, selF_append, selF_append, selF_nil_of hp, h1, selF_drop_self]; rfl
theorem selF_set_other (l : List Fld) {n m : ByteArray} (a : ByteArray) (h : lowS m ≠ lowS n) : selF (setF l n a) m = selF l m := by
  have h1 : selF [(n, a)] m = [] := by unfold selF; simp [isN_other h (isN_self n a)]
  rcases setF_shape l n with ⟨_, hs⟩ | ⟨k, hk, _, hq, hs⟩
  · rw [hs, selF_append, h1, List.append_nil]
  · rw [hs, selF_append, selF_append, h1, List.append_nil, selF_drop_other _ h]
    conv => rhs; rw [← List.take_append_drop k l, selF_append, List.drop_eq_getElem_cons hk]
    congr 1
    unfold selF
    rw [List.filter_cons, isN_other h hq]
    rfl
theorem any_set (l : List Fld) (n a : ByteArray) : (setF l n a).any (isN (lowS n)) = true := by
  rw [List.any_eq_true]
  rcases setF_shape l n with ⟨_, hs⟩ | ⟨k, hk, _, _, hs⟩ <;> rw [hs]
  · exact ⟨(n, a), by simp, isN_self n a⟩
  · exact ⟨(n, a), by simp, isN_self n a⟩
theorem find_at {p : Fld → Bool} {u v : List Fld} {x : Fld} (hu : u.any p = false) (hx : p x = true) : (u ++ x :: v).findIdx? p = some u.length := by
  rw [List.findIdx?_append, List.findIdx?_cons, hx]
  have : u.findIdx? p = none := by
    rw [List.findIdx?_eq_none_iff]
    intro y hy
    rw [List.any_eq_false] at hu
    simpa using hu y hy
  rw [this]; simp
/-- Set again: it is there instead. -/
theorem setF_set (l : List Fld) (n a b : ByteArray) : setF (setF l n a) n b = setF l n b := by
  have key : ∀ u v : List Fld, u.any (isN (lowS n)) = false → setF (u ++ (n, a) :: v) n b = u ++ [(n, b)] ++ dropF v n := by
    intro u v hu
    unfold setF
    rw [find_at hu (isN_self n a)]
    simp only
    rw [List.take_left' rfl, List.drop_append, List.drop_of_length_le (by omega), show u.length + 1 - u.length = 1 from by omega]
    rfl
  rcases setF_shape l n with ⟨h, hs⟩ | ⟨k, hk, hp, _, hs⟩
  · rw [hs, hs, key l [] h]
    simp [dropF, keepN]
  · rw [hs, hs, List.append_assoc, List.singleton_append, key _ _ hp, dropF_idem]
end Go.Proofs.Ythhhlaoiampinaa
