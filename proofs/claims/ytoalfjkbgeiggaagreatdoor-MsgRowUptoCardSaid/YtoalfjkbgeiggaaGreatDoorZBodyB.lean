/- body: what Kind answers. -/
import Derived.Test.YtoalfjkbgeiggaaGreatDoorZBodyA
import Derived.Test.YtoalfjkbgeiggaaGreatDoorZip6
namespace Go.Proofs.YtoalfjkbgeiggaaGreatDoor
set_option maxRecDepth 20000
open Go.RowKit
namespace Bd
def txt (l : List Fld) (n : ByteArray) : ByteArray := joinS (selF l n) sep2
def isR (l : List Fld) (n : ByteArray) : Bool := decide (0 < (selF l n).length)
def wt (l : List Fld) : Nat := (l.map (fun f => f.1.size + f.2.size + 2)).sum
structure LOk (w : World) (u : Value) (l : List Fld) : Prop where
  sl : SlR w e_ss u l
  sum : wt l ≤ 4398046511104
theorem LOk.below {w w' : World} {u : Value} {l : List Fld} (h : LOk w u l) (hb : Below w.heap.size w w') : LOk w' u l := ⟨h.sl.below hb, h.sum⟩
theorem wt_len (l : List Fld) : l.length ≤ wt l := sum_len _ (fun _ => by omega) l
theorem wt_sum (l : List Fld) : (l.map (fun f => f.2.size + 2)).sum ≤ wt l := by
  unfold wt
  induction l with
  | nil => simp
  | cons x m ih => simp only [List.map_cons, List.sum_cons]; omega
theorem LOk.len {w : World} {u : Value} {l : List Fld} (h : LOk w u l) : l.length * 32 ≤ 140737488355328 := by have := wt_len l; have := h.sum; omega
theorem LOk.lims {w : World} {u : Value} {l : List Fld} (h : LOk w u l) : Lims l := fun f hf => by have := sum_mem (fun d : Fld => d.1.size + d.2.size + 2) hf; have := h.sum; unfold wt at this; omega
theorem LOk.join {w : World} {u : Value} {l : List Fld} (h : LOk w u l) (n : ByteArray) : (joinL (selF l n) sep2).length ≤ 140737488351232 := Nat.le_trans (selF_join l n) (by have := wt_sum l; have := h.sum; omega)
theorem LOk.txt {w : World} {u : Value} {l : List Fld} (h : LOk w u l) (n : ByteArray) : (txt l n).size ≤ 140737488351232 := by unfold Bd.txt joinS; rw [mkS_size]; exact h.join n
theorem getL_any (u : Value) (l : List Fld) (n : ByteArray) (w : World) (h : LOk w u l) (hn : n.size ≤ 140737488351232) :
    Calls Tryz.prog 24 #[u, .string n] w fun e w' => e = .returned (.tuple #[.string (txt l n), .bool (isR l n)]) ∧ Below w.heap.size w w' := get_any u l n w h.sl h.len h.lims hn (h.join n)
def nTE : ByteArray := ⟨#[84, 114, 97, 110, 115, 102, 101, 114, 45, 69, 110, 99, 111, 100, 105, 110, 103]⟩
def nCL : ByteArray := ⟨#[67, 111, 110, 116, 101, 110, 116, 45, 76, 101, 110, 103, 116, 104]⟩
def chunkL : List UInt8 := [99, 104, 117, 110, 107, 101, 100]
def headL : List UInt8 := [72, 69, 65, 68]
/-- Has it no body, whatever its fields? -/
def noB (req : Bool) (m : ByteArray) (code : Int) : Bool := !req && (m.toList == headL || decide (code < 200) || code == 204 || code == 304)
def kindF (req : Bool) (m : ByteArray) (code : Int) (l : List Fld) : Int × Int × Int :=
  if noB req m code = true then (1, 0, 0)
  else if isR l nTE = true then (if isR l nCL = true then (0, 0, 10) else if ((lowS (txt l nTE)).toList == chunkL) = true then (3, 0, 0) else (0, 0, 10))
  else if isR l nCL = true then (if (sizeF (txt l nCL)).2 = 0 then (2, (sizeF (txt l nCL)).1, 0) else (0, 0, (sizeF (txt l nCL)).2))
  else if req = true then (1, 0, 0) else (4, 0, 0)
theorem kindF_in (req : Bool) (m : ByteArray) (code : Int) (l : List Fld) : ∃ k n e, kindF req m code l = (k, n, e) ∧ ((e ≠ 0 ∧ k = 0 ∧ n = 0) ∨ (e = 0 ∧ n = 0 ∧ (k = 1 ∨ k = 3 ∨ (k = 4 ∧ req = false))) ∨ (e = 0 ∧ k = 2 ∧ 0 ≤ n ∧ n ≤ 5000)) := by
  unfold kindF
  split
  · exact ⟨_, _, _, rfl, .inr (.inl ⟨rfl, rfl, .inl rfl⟩)⟩
  · split
    · split
      · exact ⟨_, _, _, rfl, .inl ⟨by decide, rfl, rfl⟩⟩
      · split
        · exact ⟨_, _, _, rfl, .inr (.inl ⟨rfl, rfl, .inr (.inl rfl)⟩)⟩
        · exact ⟨_, _, _, rfl, .inl ⟨by decide, rfl, rfl⟩⟩
    · split
      · rcases sizeF_in (txt l nCL) with ⟨h1, h2⟩ | ⟨h1, h2, h3⟩
        · rw [if_neg h1]; exact ⟨_, _, _, rfl, .inl ⟨h1, rfl, rfl⟩⟩
        · rw [if_pos h1]; exact ⟨_, _, _, rfl, .inr (.inr ⟨rfl, rfl, h2, h3⟩)⟩
      · split
        · exact ⟨_, _, _, rfl, .inr (.inl ⟨rfl, rfl, .inl rfl⟩)⟩
        · rename_i h; exact ⟨_, _, _, rfl, .inr (.inl ⟨rfl, rfl, .inr (.inr ⟨rfl, by simpa using h⟩)⟩)⟩
set_option maxHeartbeats 6400000 in
theorem kind_any (req : Bool) (m : ByteArray) (code : Int) (v : Value) (l : List Fld) (w : World) (h : LOk w v l) (he : HasErr w) :
    Calls Tryz.prog 15 #[.bool req, .string m, .int .i64 code, v] w fun e w' => e = .returned (.tuple #[.int .i64 (kindF req m code l).1, .int .i64 (kindF req m code l).2.1, .int .i64 (kindF req m code l).2.2]) ∧ Below w.heap.size w w' := by
  have HT := Lib.hid (getL_any v l nTE w h (by decide))
  have HC := Lib.hid (fun w' (hb : Below w.heap.size w w') => getL_any v l nCL w' (h.below hb) (by decide))
  have HLo := Lib.hid (fun w => lower_any (txt l nTE) w (h.txt nTE))
  have HSz := Lib.hid (fun w' (hb : Below w.heap.size w w') => size_any (txt l nCL) w' (h.txt nCL) (he.below hb))
  have HK : Hid (kindF req m code l = if noB req m code = true then (1, 0, 0)
      else if isR l nTE = true then (if isR l nCL = true then (0, 0, 10) else if ((lowS (txt l nTE)).toList == chunkL) = true then (3, 0, 0) else (0, 0, 10))
      else if isR l nCL = true then (if (sizeF (txt l nCL)).2 = 0 then (2, (sizeF (txt l nCL)).1, 0) else (0, 0, (sizeF (txt l nCL)).2))
      else if req = true then (1, 0, 0) else (4, 0, 0)) := rfl
  have hlo : mkS (Tok.low (sl (txt l nTE))) = lowS (txt l nTE) := rfl
  rw [hlo] at HLo
  have HB : Hid (noB req m code = (!req && (m.toList == headL || decide (code < 200) || code == 204 || code == 304))) := rfl
  unfold headL at HB
  unfold chunkL at HK
  clear h he hlo
  generalize noB req m code = nb at *
  generalize isR l nTE = p1 at *
  generalize isR l nCL = p2 at *
  generalize lowS (txt l nTE) = LT at *
  generalize txt l nTE = TE at *
  generalize sizeF (txt l nCL) = SZ at *
  generalize txt l nCL = CL at *
  generalize kindF req m code l = K3 at *
  obtain ⟨k1, k2, k3⟩ := K3
  obtain ⟨z1, z2⟩ := SZ
  dsimp only at *
  generalize hch : (LT.toList == [99, 104, 117, 110, 107, 101, 100]) = ch at *
  generalize hhd : (m.toList == [72, 69, 65, 68]) = hd at *
  generalize hd2 : decide (code < 200) = d2 at *
  generalize hd4 : (code == 204) = d4 at *
  generalize hd3 : (code == 304) = d3 at *
  go_enter Tryz.func15, Tryz.ntmps15
  go_wp2_with fail
  refine HT.out.mono ?_
  rintro e w1 ⟨rfl, b1⟩
  go_wp2_with fail
  refine (HC.out _ b1).mono ?_
  rintro e w2 ⟨rfl, b2⟩
  have B2 := belT b1 b2
  clear HT HC
  have stop : nb = true → (k1, k2, k3) = (1, 0, 0) := fun h => by rw [HK.out, if_pos h]
  have goOn : nb = false → Hid ((k1, k2, k3) = if p1 = true then (if p2 = true then (0, 0, 10) else if ch = true then (3, 0, 0) else (0, 0, 10))
      else if p2 = true then (if z2 = 0 then (2, z1, 0) else (0, 0, z2)) else if req = true then (1, 0, 0) else (4, 0, 0)) := fun h => by
    show _ = _; rw [HK.out, if_neg (by rw [h]; simp)]
  have Stop := Lib.hid stop
  have GoOn := Lib.hid goOn
  clear stop goOn HK
  have hpath : (req = false ∧ hd = true ∧ nb = true) ∨ (req = false ∧ hd = false ∧ d2 = true ∧ nb = true) ∨ (req = false ∧ hd = false ∧ d2 = false ∧ d4 = true ∧ nb = true) ∨ (req = false ∧ hd = false ∧ d2 = false ∧ d4 = false ∧ d3 = true ∧ nb = true) ∨ (req = false ∧ hd = false ∧ d2 = false ∧ d4 = false ∧ d3 = false ∧ nb = false) ∨ (req = true ∧ nb = false) := by
    have := HB.out
    subst this
    cases req <;> cases hd <;> cases d2 <;> cases d4 <;> cases d3 <;> simp
  clear HB
  rcases hpath with ⟨rfl, rfl, rfl⟩ | ⟨rfl, rfl, rfl, rfl⟩ | ⟨rfl, rfl, rfl, rfl, rfl⟩ | ⟨rfl, rfl, rfl, rfl, rfl, rfl⟩ | ⟨rfl, rfl, rfl, rfl, rfl, rfl⟩ | ⟨rfl, rfl⟩
  iterate 4
    focus
      injection Stop.out rfl with h1 h2
      injection h2 with h2 h3
      subst h1 h2 h3
      go_wp2_with fail
      go_ret3
      exact ⟨rfl, B2⟩
  all_goals
    have HR := Lib.hid (GoOn.out rfl).out
    clear Stop GoOn
    cases p1
    · cases p2
      · injection HR.out with h1 h2
        injection h2 with h2 h3
        subst h1 h2 h3
        clear HR
        go_wp2_with fail
        go_ret3
        exact ⟨rfl, B2⟩
      · by_cases hz : z2 = 0
        · have hR := HR.out
          rw [if_neg (by simp), if_pos rfl, if_pos hz] at hR
          injection hR with h1 h2
          injection h2 with h2 h3
          subst h1 h2 h3 hz
          clear HR
          go_wp2_with fail
          refine (HSz.out _ B2).mono ?_
          rintro e w3 ⟨rfl, b3⟩
          go_wp2_with fail
          go_ret3
          exact ⟨rfl, belT B2 b3⟩
        · have hR := HR.out
          rw [if_neg (by simp), if_pos rfl, if_neg hz] at hR
          injection hR with h1 h2
          injection h2 with h2 h3
          subst h1 h2 h3
          have dz : (k3 != 0) = true := by simpa using hz
          clear HR hz
          go_wp2_with fail
          refine (HSz.out _ B2).mono ?_
          rintro e w3 ⟨rfl, b3⟩
          go_wp2_with fail
          go_ret3
          exact ⟨rfl, belT B2 b3⟩
    · cases p2
      · cases ch
        all_goals
          injection HR.out with h1 h2
          injection h2 with h2 h3
          subst h1 h2 h3
          clear HR
          go_wp2_with fail
          refine (HLo.out _).mono ?_
          rintro e w3 ⟨rfl, b3⟩
          go_wp2_with fail
          go_ret3
          exact ⟨rfl, belT B2 b3⟩
      · injection HR.out with h1 h2
        injection h2 with h2 h3
        subst h1 h2 h3
        clear HR
        go_wp2_with fail
        go_ret3
        exact ⟨rfl, B2⟩
end Bd
end Go.Proofs.YtoalfjkbgeiggaaGreatDoor
