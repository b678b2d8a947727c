/- MsgRow: in plain words. -/
import Derived.Test.YtoalfjkbgeiggaaGreatDoorZOpenK
namespace Go.Proofs.YtoalfjkbgeiggaaGreatDoor
set_option maxRecDepth 20000
open Go.RowKit
open Ck Ms Bd Ln
namespace Ms
theorem linesF_sum : ∀ (l : List Fp), (linesF l).length ≤ 2 * (l.map (fun d => d.1.size + d.2.size + 2)).sum
  | [] => by simp [linesF]
  | f :: l => by
    have h := linesF_sum l
    rw [linesF_cons]
    simp only [List.length_append, List.length_cons, List.length_nil, List.map_cons, List.sum_cons]
    have hf : (lineF f).length = f.1.size + f.2.size + 2 := by
      unfold lineF
      simp only [List.length_append, List.length_cons, List.length_nil, sl_len]
      omega
    omega
/-- How long what is written is. -/
theorem writeR_wt {q : Rq} {x : List UInt8} (h : writeR q.m q.t q.l (sl q.b) = .ok x) : x.length ≤ 14 * q.wt := by
  obtain ⟨-, -, -, -, hb5, -, -⟩ := writeR_ok h
  unfold writeR at h
  split at h
  · split at h
    · cases h
    · rename_i y hy
      injection h with h
      subst h
      have hl := req_len (sl q.m) (sl q.t)
      have hp : (printF q.l).length ≤ 2 * (q.l.map (fun d => d.1.size + d.2.size + 2)).sum + 2 := by
        have := linesF_sum q.l
        unfold printF
        rw [List.length_append]
        simp only [List.length_cons, List.length_nil]
        omega
      have hy2 : y.length ≤ (printF q.l).length + (9 * q.b.size + 5) := by
        unfold writeF at hy
        split at hy
        · cases hy
        · split at hy
          · cases hy
          · split at hy
            · cases hy
            · split at hy
              · cases hy
              · split at hy
                · split at hy
                  · cases hy
                  · injection hy with hy
                    subst hy
                    have := encL_len (sl q.b).length 64 (sl q.b) (by omega) hb5
                    rw [sl_len] at this
                    rw [List.length_append, sl_len]
                    omega
                · injection hy with hy
                  subst hy
                  rw [List.length_append, sl_len]
                  omega
      rw [sl_len, sl_len] at hl
      unfold Rq.wt
      simp only [List.length_append, List.length_cons, List.length_nil]
      omega
  · cases h
/-- Those that can be written, with what is written. -/
def okR (xs : List Rq) : List (Rq × List UInt8) := xs.filterMap (fun q => match writeR q.m q.t q.l (sl q.b) with
  | .ok x => some (q, x)
  | .error _ => none)
theorem okR_snoc (xs : List Rq) (q : Rq) : okR (xs ++ [q]) = okR xs ++ (match writeR q.m q.t q.l (sl q.b) with
  | .ok x => [(q, x)]
  | .error _ => []) := by
  unfold okR
  rw [List.filterMap_append]
  congr 1
  simp only [List.filterMap_cons, List.filterMap_nil]
  cases writeR q.m q.t q.l (sl q.b) <;> rfl
theorem okR_mem {xs : List Rq} {p : Rq × List UInt8} (h : p ∈ okR xs) : p.1 ∈ xs ∧ writeR p.1.m p.1.t p.1.l (sl p.1.b) = .ok p.2 := by
  unfold okR at h
  obtain ⟨q, hq, he⟩ := List.mem_filterMap.1 h
  cases hw : writeR q.m q.t q.l (sl q.b) with
  | error c => rw [hw] at he; cases he
  | ok x => rw [hw] at he; injection he with he; subst he; exact ⟨hq, hw⟩
theorem okR_len : ∀ (xs : List Rq), ((okR xs).flatMap (·.2)).length ≤ 14 * (xs.map Rq.wt).sum ∧ (okR xs).length ≤ xs.length
  | [] => by simp [okR]
  | q :: xs => by
    have h := okR_len xs
    have e : okR (q :: xs) = (match writeR q.m q.t q.l (sl q.b) with
      | .ok x => [(q, x)]
      | .error _ => []) ++ okR xs := by
      unfold okR
      rw [List.filterMap_cons]
      cases writeR q.m q.t q.l (sl q.b) <;> rfl
    rw [e]
    cases hw : writeR q.m q.t q.l (sl q.b) with
    | error c =>
      simp only [List.nil_append, List.map_cons, List.sum_cons, List.length_cons]
      omega
    | ok x =>
      have hx := writeR_wt hw
      simp only [List.cons_append, List.nil_append, List.flatMap_cons, List.length_append, List.map_cons, List.sum_cons, List.length_cons]
      omega
end Ms
end Go.Proofs.YtoalfjkbgeiggaaGreatDoor
