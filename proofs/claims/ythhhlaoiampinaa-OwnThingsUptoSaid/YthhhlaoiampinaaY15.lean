/- strings.Builder of a call's own: what copyCheck and WriteString leave, on lists of bytes; String. -/
import Derived.Test.YthhhlaoiampinaaY9
import Derived.Test.YthhhlaoiampinaaY0
import Derived.Laws.Externs
import Derived.Lib.UnsafeStr
import Std
namespace Go.Proofs.Ythhhlaoiampinaa
open Go.RowKit
/-- The builder in block b holds these bytes. -/
abbrev Bld (B b : Nat) (l : List UInt8) (w : World) : Prop := Lib.IsBuilder 120 5 B b (Lib.byteCells l) w
abbrev BX : Go.Proofs.Builder.Extra Try.prog Try.lays169_ren := Try.Builder_Extra_169
theorem bx_size : (Try.prog.info? 120).map (·.size) = some 2 := by kernel_rfl
theorem bx_lies : liesAt Try.prog Try.prog.depth 120 (2 / Try.prog.cellsOf 120) 0 120 1 = true := by kernel_rfl
set_option maxRecDepth 100000 in
theorem copyCheck_used (b : Nat) (w : World) (h0 : w.cell? ⟨b, 0, none⟩ = some (.pointer (some ⟨b, 0, none⟩))) :
    Calls Try.prog 104 #[.pointer (some ⟨b, 0, none⟩)] w fun e w' => e = .returned (.tuple #[]) ∧ w' = w := by
  obtain ⟨j, hj, _⟩ := Option.map_eq_some_iff.1 bx_size
  go_enter Try.func104, Try.ntmps104
  go_wp2
  rw [Lib.run_neq_ptr_same w _ Try.underlying118 hj]
  go_wp2
  go_end0
  exact ⟨rfl, rfl⟩
set_option maxHeartbeats 1000000 in
set_option maxRecDepth 100000 in
theorem copyCheck_fresh (b : Nat) (w : World) (h0 : w.cell? ⟨b, 0, none⟩ = some (.pointer none)) (hsh : w.shape? b = some (120, 2)) (hfz : w.frozen? ⟨b, 0, none⟩ = false) :
    Calls Try.prog 104 #[.pointer (some ⟨b, 0, none⟩)] w fun e w' => e = .returned (.tuple #[]) ∧ w' = w.setCell ⟨b, 0, none⟩ (.pointer (some ⟨b, 0, none⟩)) := by
  obtain ⟨j, hj, hjs⟩ := Option.map_eq_some_iff.1 bx_size
  go_enter Try.func104, Try.ntmps104
  go_wp2
  rw [Lib.run_to_unsafe w ⟨b, 0, none⟩ Try.underlying118 Try.underlying186 hj (by rw [hjs]; decide) hsh (Nat.zero_lt_succ 1)]
  simp only [Result.andThen]
  rw [Oper.upon_value]
  go_wp2
  rw [run_callFunc_extern Try.func120 (by kernel_rfl) (by kernel_rfl) (by kernel_rfl) (e := Extern.AbiNoEscape.same) (by kernel_rfl)]
  rw [Lib.run_noEscape]
  simp only [Result.andThen]
  rw [Oper.upon_value]
  go_wp2
  rw [Lib.run_from_unsafe w ⟨b, 0, none⟩ Try.underlying186 Try.underlying118 hj hsh bx_lies]
  simp only [Result.andThen]
  rw [Oper.upon_value]
  go_wp2
  go_end0
  exact ⟨rfl, rfl⟩
theorem copyCheck_any (B b : Nat) (l : List UInt8) (w : World) (h : Bld B b l w) :
    Calls Try.prog 104 #[.pointer (some ⟨b, 0, none⟩)] w fun e w' => e = .returned (.tuple #[]) ∧ Lib.BuilderAt 120 5 B b (.pointer (some ⟨b, 0, none⟩)) (Lib.byteCells l) w' ∧ Below B w w' := by
  rcases h with h | h
  · refine (copyCheck_fresh b w h.cell0 h.shape h.frozen0).mono ?_
    rintro e w' ⟨rfl, rfl⟩
    exact ⟨rfl, h.used _, (Below.refl B w).setCell (p := ⟨b, 0, none⟩) h.1 _⟩
  · refine (copyCheck_used b w h.cell0).mono ?_
    rintro e w' ⟨rfl, rfl⟩
    exact ⟨rfl, h, Below.refl B _⟩
theorem byteCells_eb (l : List UInt8) : Lib.byteCells l = l.flatMap eb := by rw [eb_map]; rfl
theorem byteCells_len (l : List UInt8) : (Lib.byteCells l).length = l.length := by rw [byteCells_eb, eb_len]; omega
set_option maxHeartbeats 1000000 in
set_option maxRecDepth 100000 in
theorem writeString_any (B b : Nat) (l : List UInt8) (s : ByteArray) (w : World) (h : Bld B b l w) (hlen : l.length + s.size ≤ 140737488355328) (hBw : B ≤ w.heap.size) :
    Calls Try.prog 77 #[.pointer (some ⟨b, 0, none⟩), .string s] w fun e w' => e = .returned (.tuple #[.int .i64 s.size, .nilIface]) ∧ Bld B b (l ++ sl s) w' ∧ Below B w w' := by
  go_enter Try.func77, Try.ntmps77
  go_wp2_with fail
  refine (copyCheck_any B b l _ h).mono ?_
  rintro e w1 ⟨rfl, h1, hb1⟩
  obtain ⟨hB, v, hbk, hown, hne⟩ := h1
  have hO : Owns w1 B 5 1 eb v l := by unfold Owns; rw [← byteCells_eb, ← byteCells_len]; exact hown
  clear hown
  have c0 : w1.cell? ⟨b, 0, none⟩ = some (.pointer (some ⟨b, 0, none⟩)) := by rw [Lib.cell_of_heap hbk]; rfl
  have c1 : w1.cell? ⟨b, 1, none⟩ = some v := by rw [Lib.cell_of_heap hbk]; rfl
  have HO := Lib.hid hO
  have HK := Lib.hid hbk
  have hlt : b < w1.heap.size := Blk.lt hbk
  clear hO hbk
  go_wp2_with (at_builtin; go_must (refine wpList_append_text rfl (.tmp 12) (.tmp 13) _ _ rfl B 5 Try.underlying110 Try.underlying9 byteInfo _ l rfl HO.out s rfl hlen (by have := hb1.size; omega) ?_))
  intro v' w2 hown' hgrow
  have hb2 : w2.heap[b]? = some (.cells #[.pointer (some ⟨b, 0, none⟩), v] 120 (0, 0)) := by
    rw [hgrow.block b hlt (fun e => hne e.symm)]
    exact HK.out
  have d0 : w2.cell? ⟨b, 0, none⟩ = some (.pointer (some ⟨b, 0, none⟩)) := by rw [Lib.cell_of_heap hb2]; rfl
  have d1 : w2.cell? ⟨b, 1, none⟩ = some v := by rw [Lib.cell_of_heap hb2]; rfl
  have f1 : w2.frozen? ⟨b, 1, none⟩ = false := Lib.frozen_of_heap hb2 1
  obtain ⟨ao, n', cap, rfl⟩ : ∃ ao n' cap, v' = .slice ao n' cap := by
    rcases hown'.form with ⟨hv, _⟩ | ⟨g, cap, hv⟩
    · exact ⟨_, _, _, hv⟩
    · exact ⟨_, _, _, hv⟩
  have H2 := Lib.hid hb2
  clear hb2
  go_wp2
  go_ret2
  have ho : w2.ownsRow B 5 1 (.slice ao n' cap) (Lib.byteCells (l ++ sl s)).length (Lib.byteCells (l ++ sl s)) := by rw [byteCells_len, byteCells_eb]; exact hown'
  exact ⟨rfl, .inr (Lib.BuilderAt.put (T := 120) (e := 5) hB H2.out (bs' := Lib.byteCells (l ++ sl s)) ho (by decide)), (hb1.grown hgrow (by have := hb1.size; omega) (fun k hk => (HO.out.lt k hk).1)).setCell (p := ⟨b, 1, none⟩) hB _⟩
theorem Bld.below {B b : Nat} {l : List UInt8} {w w' : World} (h : Bld B b l w) (hb : Below w.heap.size w w') : Bld B b l w' := by
  have key : ∀ p, Lib.BuilderAt 120 5 B b p (Lib.byteCells l) w → Lib.BuilderAt 120 5 B b p (Lib.byteCells l) w' := by
    rintro p ⟨hB, v, hk, ho, hne⟩
    have ho' : Owns w B 5 1 eb v l := by unfold Owns; rw [← byteCells_eb, ← byteCells_len]; exact ho
    have ho2 := ho'.below hb
    unfold Owns at ho2; rw [← byteCells_eb, ← byteCells_len] at ho2
    exact ⟨hB, v, (hb.block b (Blk.lt hk)).trans hk, ho2, hne⟩
  exact h.elim (fun x => .inl (key _ x)) (fun x => .inr (key _ x))
theorem Bld.drew {B b : Nat} {l : List UInt8} {w : World} (h : Bld B b l w) : Bld B b l w.drew := h
/-- A builder just laid. -/
theorem bld_new (B : Nat) (w : World) (hB : B ≤ w.heap.size) : Bld B w.heap.size [] (w.alloc (.cells #[.pointer none, .slice none 0 0] 120)) :=
  .inl ⟨hB, .slice none 0 0, heap_alloc_new w _, World.ownsRow_nil _ _ _ _, by simp [Value.ownBlock]⟩
theorem string_any (B b : Nat) (l : List UInt8) (w : World) (h : Bld B b l w) (hBw : B ≤ w.heap.size) :
    Calls Try.prog 78 #[.pointer (some ⟨b, 0, none⟩)] w fun e w' => e = .returned (.string (mkS l)) ∧ Below B w w' := Try.Builder_String_any B b l w h hBw
end Go.Proofs.Ythhhlaoiampinaa
namespace Go.Proofs.Ythhhlaoiampinaa
namespace Lg
/-! ### The checksum. -/
def step (n : Nat) : Nat := (n >>> 1) ^^^ ((n &&& 1) * 2197175160)
def steps : Nat → Nat → Nat
  | 0, n => n
  | k + 1, n => step (steps k n)
def crcB (n : Nat) (c : UInt8) : Nat := steps 8 (n ^^^ c.toNat)
def reg (n : Nat) (l : List UInt8) : Nat := l.foldl crcB n
def crc (l : List UInt8) : Nat := 4294967295 - reg 4294967295 l
theorem step_lt {n : Nat} (h : n < 4294967296) : step n < 4294967296 := by
  unfold step
  have h1 : n >>> 1 < 2 ^ 32 := by rw [Nat.shiftRight_eq_div_pow]; omega
  have h2 : (n &&& 1) * 2197175160 < 2 ^ 32 := by rw [Nat.and_one_is_mod]; have := Nat.mod_lt n (y := 2) (by omega); omega
  exact Nat.xor_lt_two_pow h1 h2
theorem steps_lt {n : Nat} (h : n < 4294967296) : ∀ k, steps k n < 4294967296
  | 0 => h
  | k + 1 => step_lt (steps_lt h k)
theorem step_xor (a b : Nat) : step (a ^^^ b) = step a ^^^ step b := by
  unfold step
  have e : ((a ^^^ b) &&& 1) * 2197175160 = ((a &&& 1) * 2197175160) ^^^ ((b &&& 1) * 2197175160) := by
    rw [Nat.and_xor_distrib_right, Nat.and_one_is_mod, Nat.and_one_is_mod]
    rcases Nat.mod_two_eq_zero_or_one a with h | h <;> rcases Nat.mod_two_eq_zero_or_one b with g | g <;> rw [h, g] <;> simp
  rw [Nat.shiftRight_xor_distrib, e]
  simp only [Nat.xor_assoc]
  congr 1
  rw [← Nat.xor_assoc, ← Nat.xor_assoc, Nat.xor_comm (b >>> 1)]
theorem steps_xor (a b : Nat) : ∀ k, steps k (a ^^^ b) = steps k a ^^^ steps k b
  | 0 => rfl
  | k + 1 => by simp only [steps, steps_xor a b k, step_xor]
theorem step_zero {d : Nat} (h : d < 4294967296) (h0 : step d = 0) : d = 0 := by
  unfold step at h0
  have e : d >>> 1 = (d &&& 1) * 2197175160 := by
    have h1 := congrArg (fun x => x ^^^ ((d &&& 1) * 2197175160)) h0
    simpa [Nat.xor_assoc] using h1
  rw [Nat.and_one_is_mod, Nat.shiftRight_eq_div_pow] at e
  omega
theorem steps_zero : ∀ (k : Nat) {d : Nat}, d < 4294967296 → steps k d = 0 → d = 0
  | 0, _, _, h0 => h0
  | k + 1, _, h, h0 => steps_zero k h (step_zero (steps_lt h k) h0)
theorem steps_inj {k a b : Nat} (ha : a < 4294967296) (hb : b < 4294967296) (h : steps k a = steps k b) : a = b := by
  have h0 : steps k (a ^^^ b) = 0 := by rw [steps_xor, h, Nat.xor_self]
  have := steps_zero k (Nat.xor_lt_two_pow (n := 32) ha hb) h0
  have h1 := congrArg (fun x => x ^^^ b) this
  simpa [Nat.xor_assoc] using h1
theorem steps_add (j : Nat) (n : Nat) : ∀ k, steps (k + j) n = steps k (steps j n)
  | 0 => by rw [Nat.zero_add]; rfl
  | k + 1 => by rw [show k + 1 + j = (k + j) + 1 from by omega]; simp only [steps, steps_add j n k]
theorem byte_lt (c : UInt8) : c.toNat < 256 := c.toNat_lt
theorem crcB_lt {n : Nat} (c : UInt8) (h : n < 4294967296) : crcB n c < 4294967296 :=
  steps_lt (Nat.xor_lt_two_pow (n := 32) h (by have := byte_lt c; omega)) 8
theorem reg_lt : ∀ (l : List UInt8) {n : Nat}, n < 4294967296 → reg n l < 4294967296
  | [], _, h => h
  | c :: l, _, h => reg_lt l (crcB_lt c h)
theorem reg_append (n : Nat) (a b : List UInt8) : reg n (a ++ b) = reg (reg n a) b := List.foldl_append ..
theorem crcB_inj {n m : Nat} (c : UInt8) (hn : n < 4294967296) (hm : m < 4294967296) (h : crcB n c = crcB m c) : n = m := by
  have hb := byte_lt c
  have := steps_inj (Nat.xor_lt_two_pow (n := 32) hn (by omega)) (Nat.xor_lt_two_pow (n := 32) hm (by omega)) h
  have h1 := congrArg (fun x => x ^^^ c.toNat) this
  simpa [Nat.xor_assoc] using h1
theorem reg_inj : ∀ (l : List UInt8) {n m : Nat}, n < 4294967296 → m < 4294967296 → reg n l = reg m l → n = m
  | [], _, _, _, _, h => h
  | c :: l, _, _, hn, hm, h => crcB_inj c hn hm (reg_inj l (crcB_lt c hn) (crcB_lt c hm) h)
theorem steps8_byte (b : Nat) (h : b < 256) : steps 8 (b * 256) = b := by
  have e : ∀ n, n % 2 = 0 → step n = n / 2 := by
    intro n hn
    unfold step
    rw [Nat.and_one_is_mod, hn, Nat.shiftRight_eq_div_pow]
    simp
  have e1 : ∀ m, step (m * 2) = m := fun m => by rw [e _ (by omega)]; omega
  rw [show b * 256 = b * 2 * 2 * 2 * 2 * 2 * 2 * 2 * 2 from by omega]
  simp only [steps, e1]
/-- Two bytes side by side that were spoilt are seen. -/
theorem reg_two {n : Nat} (h : n < 4294967296) (x y a b : UInt8) (hab : a ≠ 0) : reg n [x ^^^ a, y ^^^ b] ≠ reg n [x, y] := by
  intro e
  simp only [reg, List.foldl_cons, List.foldl_nil, crcB] at e
  have ha := byte_lt a; have hb := byte_lt b; have hx := byte_lt x; have hy := byte_lt y
  have hnx : n ^^^ x.toNat < 4294967296 := Nat.xor_lt_two_pow (n := 32) h (by omega)
  have e1 := steps_inj (Nat.xor_lt_two_pow (n := 32) (steps_lt (Nat.xor_lt_two_pow (n := 32) h (by have := byte_lt (x ^^^ a); omega)) 8) (by have := byte_lt (y ^^^ b); omega)) (Nat.xor_lt_two_pow (n := 32) (steps_lt hnx 8) (by omega)) e
  rw [UInt8.toNat_xor, UInt8.toNat_xor, ← Nat.xor_assoc n, steps_xor] at e1
  have e2 : steps 8 a.toNat = b.toNat := by
    have h1 := congrArg (fun z => steps 8 (n ^^^ x.toNat) ^^^ z ^^^ y.toNat ^^^ b.toNat) e1
    have l1 : steps 8 (n ^^^ x.toNat) ^^^ (steps 8 (n ^^^ x.toNat) ^^^ steps 8 a.toNat ^^^ (y.toNat ^^^ b.toNat)) ^^^ y.toNat ^^^ b.toNat = steps 8 a.toNat := by
      generalize steps 8 (n ^^^ x.toNat) = p; generalize steps 8 a.toNat = q; generalize y.toNat = r; generalize b.toNat = s
      rw [Nat.xor_assoc p q, ← Nat.xor_assoc p p, Nat.xor_self, Nat.zero_xor, Nat.xor_assoc, Nat.xor_assoc q, Nat.xor_self, Nat.xor_zero]
    have l2 : steps 8 (n ^^^ x.toNat) ^^^ (steps 8 (n ^^^ x.toNat) ^^^ y.toNat) ^^^ y.toNat ^^^ b.toNat = b.toNat := by
      generalize steps 8 (n ^^^ x.toNat) = p; generalize y.toNat = r; generalize b.toNat = s
      rw [← Nat.xor_assoc p p, Nat.xor_self, Nat.zero_xor, Nat.xor_self, Nat.zero_xor]
    rw [l1, l2] at h1
    exact h1
  rw [← steps8_byte b.toNat hb] at e2
  have e3 := steps_inj (by omega) (by omega) e2
  have : a.toNat ≠ 0 := by
    intro h0; apply hab; exact UInt8.toNat_inj.1 (by simpa using h0)
  omega
theorem reg_one {n : Nat} (h : n < 4294967296) (x a : UInt8) (hab : a ≠ 0) : reg n [x ^^^ a] ≠ reg n [x] := by
  intro e
  apply reg_two h x 0 a 0 hab
  have := congrArg (fun m => crcB m 0) e
  simpa [reg] using this
/-- The last byte of what is summed, and the sum's own first byte. -/
theorem reg_edge {n : Nat} (h : n < 4294967296) (x a b : UInt8) (hab : a ≠ 0) : reg n [x ^^^ a] ≠ reg n [x] ^^^ b.toNat := by
  intro e
  apply reg_two h x 0 a b hab
  simp only [reg, List.foldl_cons, List.foldl_nil] at e ⊢
  rw [e]
  unfold crcB
  congr 1
  rw [UInt8.toNat_xor]
  simp [Nat.xor_assoc]
end Lg
end Go.Proofs.Ythhhlaoiampinaa
namespace Go.Proofs.Ythhhlaoiampinaa
namespace Lg
def nb (n : Nat) : UInt8 := UInt8.ofNat n
def be4 (n : Nat) : List UInt8 := [nb (n / 16777216), nb (n / 65536), nb (n / 256), nb n]
def le4 (n : Nat) : List UInt8 := [nb n, nb (n / 256), nb (n / 65536), nb (n / 16777216)]
def hd4 (n : Nat) : List UInt8 := [nb (n / 256), nb n, nb (255 - n / 256 % 256), nb (255 - n % 256)]
def fcrc (k : Nat) (s : List UInt8) : Nat := crc (be4 k ++ s)
def frame (k : Nat) (s : List UInt8) : List UInt8 := hd4 s.length ++ s ++ le4 (fcrc k s)
theorem nb_toNat (n : Nat) : (nb n).toNat = n % 256 := by simp [nb]
theorem nb_eq {a b : Nat} : nb a = nb b ↔ a % 256 = b % 256 := by
  rw [← UInt8.toNat_inj, nb_toNat, nb_toNat]
theorem frame_len (k : Nat) (s : List UInt8) : (frame k s).length = s.length + 8 := by simp [frame, hd4, le4]
theorem crc_lt (l : List UInt8) : crc l < 4294967296 := by unfold crc; omega
theorem le4_inj {a b : Nat} (ha : a < 4294967296) (hb : b < 4294967296) (h : le4 a = le4 b) : a = b := by
  simp only [le4, List.cons.injEq, nb_eq, and_true] at h
  omega
/-- The length that a head says. -/
def len2 : List UInt8 → Nat
  | a :: b :: _ => a.toNat * 256 + b.toNat
  | _ => 0
/-- The next record of what is there, if it is whole. -/
def rec1 (k : Nat) (rest : List UInt8) : Option (List UInt8) :=
  if rest.length < 4 then none
  else if rest.length < 8 + len2 rest then none
  else if len2 rest ≤ 1000 ∧ frame k ((rest.drop 4).take (len2 rest)) = rest.take (8 + len2 rest) then some ((rest.drop 4).take (len2 rest))
  else none
theorem rec1_len {k : Nat} {rest b : List UInt8} (h : rec1 k rest = some b) : 8 + b.length ≤ rest.length ∧ b.length ≤ 1000 ∧ rest.take (8 + b.length) = frame k b ∧ b = (rest.drop 4).take (len2 rest) ∧ b.length = len2 rest := by
  unfold rec1 at h
  split at h
  · cases h
  · split at h
    · cases h
    · split at h
      · rename_i h1 h2 h3
        obtain rfl : (rest.drop 4).take (len2 rest) = b := by injection h
        have hl : ((rest.drop 4).take (len2 rest)).length = len2 rest := by simp; omega
        exact ⟨by omega, by omega, by rw [hl]; exact h3.2.symm, rfl, hl⟩
      · cases h
/-- All records from the k-th one on, and how many bytes they take. -/
def recAll (k : Nat) (rest : List UInt8) : List (List UInt8) × Nat :=
  match h : rec1 k rest with
  | none => ([], 0)
  | some b => (b :: (recAll (k + 1) (rest.drop (8 + b.length))).1, (8 + b.length) + (recAll (k + 1) (rest.drop (8 + b.length))).2)
termination_by rest.length
decreasing_by all_goals (have := rec1_len h; simp; omega)
theorem recAll_none {k : Nat} {rest : List UInt8} (h : rec1 k rest = none) : recAll k rest = ([], 0) := by
  rw [recAll]; split
  · rfl
  · rename_i h1; rw [h] at h1; cases h1
theorem recAll_some {k : Nat} {rest b : List UInt8} (h : rec1 k rest = some b) : recAll k rest = (b :: (recAll (k + 1) (rest.drop (8 + b.length))).1, (8 + b.length) + (recAll (k + 1) (rest.drop (8 + b.length))).2) := by
  rw [recAll]; split
  · rename_i h1; rw [h] at h1; cases h1
  · rename_i b' h1; rw [h] at h1; injection h1 with h1; subst h1; rfl
def writeL (k : Nat) : List (List UInt8) → List UInt8
  | [] => []
  | s :: l => frame k s ++ writeL (k + 1) l
theorem len2_frame (k : Nat) (s rest : List UInt8) (h : s.length ≤ 1000) : len2 (frame k s ++ rest) = s.length := by
  simp only [frame, hd4, List.cons_append, len2, nb_toNat]; omega
theorem rec1_frame (k : Nat) (s rest : List UInt8) (h : s.length ≤ 1000) : rec1 k (frame k s ++ rest) = some s := by
  have hl := frame_len k s
  have hb : ((frame k s ++ rest).drop 4).take s.length = s := by simp [frame, hd4]
  unfold rec1
  rw [len2_frame k s rest h, hb, if_neg (by rw [List.length_append]; omega), if_neg (by rw [List.length_append]; omega), if_pos]
  refine ⟨h, ?_⟩
  rw [show 8 + s.length = (frame k s).length from by omega, List.take_left']
  rfl
theorem recAll_cons (k : Nat) (s rest : List UInt8) (h : s.length ≤ 1000) : recAll k (frame k s ++ rest) = (s :: (recAll (k + 1) rest).1, (frame k s).length + (recAll (k + 1) rest).2) := by
  have hl := frame_len k s
  rw [recAll_some (rec1_frame k s rest h), show 8 + s.length = (frame k s).length from by omega, List.drop_left']
  rfl
theorem recAll_write : ∀ (l : List (List UInt8)) (k : Nat) (rest : List UInt8), (∀ s ∈ l, s.length ≤ 1000) → recAll k (writeL k l ++ rest) = (l ++ (recAll (k + l.length) rest).1, (writeL k l).length + (recAll (k + l.length) rest).2)
  | [], k, rest, _ => by simp [writeL]
  | s :: l, k, rest, h => by
    rw [writeL, List.append_assoc, recAll_cons k s _ (h s (by simp)), recAll_write l (k + 1) rest (fun x hx => h x (by simp [hx]))]
    simp only [List.length_cons, List.length_append, List.cons_append, show k + 1 + l.length = k + (l.length + 1) from by omega]
    rw [Nat.add_assoc]
theorem rec1_short (k : Nat) (rest : List UInt8) (h : rest.length < 4) : rec1 k rest = none := by unfold rec1; rw [if_pos h]
theorem recAll_back (l : List (List UInt8)) (h : ∀ s ∈ l, s.length ≤ 1000) : recAll 0 (writeL 0 l) = (l, (writeL 0 l).length) := by
  have := recAll_write l 0 [] h
  rw [List.append_nil, recAll_none (rec1_short _ [] (by simp))] at this
  simpa using this
/-! ### The end torn off. -/
/-- How many frames, from the k-th on, lie whole within the first 'at' bytes; and their bytes. -/
def whole (k : Nat) : List (List UInt8) → Nat → Nat × Nat
  | [], _ => (0, 0)
  | s :: l, at_ => if at_ < (frame k s).length then (0, 0) else ((whole (k + 1) l (at_ - (frame k s).length)).1 + 1, (frame k s).length + (whole (k + 1) l (at_ - (frame k s).length)).2)
theorem rec1_torn (k : Nat) (s : List UInt8) (n : Nat) (hs : s.length ≤ 1000) (h : n < (frame k s).length) : rec1 k ((frame k s).take n) = none := by
  have hl := frame_len k s
  unfold rec1
  by_cases h4 : n < 4
  · rw [if_pos (by rw [List.length_take]; omega)]
  · have e : len2 ((frame k s).take n) = s.length := by
      obtain ⟨m, rfl⟩ : ∃ m, n = m + 2 := ⟨n - 2, by omega⟩
      simp only [frame, hd4, List.cons_append, List.take_succ_cons, len2, nb_toNat]; omega
    rw [e, if_neg (by rw [List.length_take]; omega), if_pos (by rw [List.length_take]; omega)]
theorem recAll_torn : ∀ (l : List (List UInt8)) (k n : Nat), (∀ s ∈ l, s.length ≤ 1000) → recAll k ((writeL k l).take n) = (l.take (whole k l n).1, (whole k l n).2)
  | [], k, n, _ => by simp [writeL, whole, recAll_none (rec1_short k [] (by simp))]
  | s :: l, k, n, h => by
    rw [writeL, whole]
    by_cases hn : n < (frame k s).length
    · rw [if_pos hn, List.take_append_of_le_length (by omega), recAll_none (rec1_torn k s n (h s (by simp)) hn)]
      simp
    · rw [if_neg hn, List.take_append, List.take_of_length_le (by omega), recAll_cons k s _ (h s (by simp)), recAll_torn l (k + 1) _ (fun x hx => h x (by simp [hx]))]
      simp
theorem whole_le : ∀ (l : List (List UInt8)) (k n : Nat), (whole k l n).1 ≤ l.length ∧ (whole k l n).2 ≤ n ∧ (whole k l n).2 ≤ (writeL k l).length
  | [], k, n => by simp [whole]
  | s :: l, k, n => by
    rw [whole]
    split
    · simp
    · have := whole_le l (k + 1) (n - (frame k s).length)
      simp only [List.length_cons, writeL, List.length_append]
      omega
theorem whole_write : ∀ (l : List (List UInt8)) (k n : Nat), (writeL k l).take (whole k l n).2 = writeL k (l.take (whole k l n).1)
  | [], k, n => by simp [whole, writeL]
  | s :: l, k, n => by
    rw [whole]
    split
    · simp [writeL]
    · simp only [List.take_succ_cons, writeL]
      rw [List.take_append, List.take_of_length_le (by omega), Nat.add_sub_cancel_left, whole_write l (k + 1) _]
/-! ### Bytes spoilt. -/
/-- The k-th byte and the one behind it, spoilt. -/
def spoil : List UInt8 → Nat → UInt8 → UInt8 → List UInt8
  | [], _, _, _ => []
  | x :: y :: t, 0, a, b => (x ^^^ a) :: (y ^^^ b) :: t
  | [x], 0, a, _ => [x ^^^ a]
  | x :: t, k + 1, a, b => x :: spoil t k a b
theorem spoil_right : ∀ (u v : List UInt8) (k : Nat) (a b : UInt8), spoil (u ++ v) (u.length + k) a b = u ++ spoil v k a b
  | [], v, k, a, b => by simp
  | x :: u, v, k, a, b => by
    rw [List.cons_append, List.length_cons, show u.length + 1 + k = (u.length + k) + 1 from by omega]
    simp only [spoil, spoil_right u v k a b, List.cons_append]
theorem spoil_len : ∀ (t : List UInt8) (k : Nat) (a b : UInt8), (spoil t k a b).length = t.length
  | [], _, _, _ => by simp [spoil]
  | [x], 0, a, _ => by simp [spoil]
  | x :: y :: t, 0, a, b => by simp [spoil]
  | x :: t, k + 1, a, b => by simp [spoil, spoil_len t k a b]
theorem xor_self_of {x a : UInt8} (h : x ^^^ a = x) : a = 0 := by
  have := congrArg (fun z => x ^^^ z) h
  simpa [← UInt8.xor_assoc] using this
theorem crc_inj {k l : List UInt8} (h : crc k = crc l) : reg 4294967295 k = reg 4294967295 l := by
  have h1 := reg_lt k (n := 4294967295) (by omega)
  have h2 := reg_lt l (n := 4294967295) (by omega)
  unfold crc at h; omega
theorem not_xor {z : Nat} (h : z < 4294967296) : 4294967295 - z = z ^^^ 4294967295 := by
  have e : (~~~ (BitVec.ofNat 32 z)).toNat = (BitVec.ofNat 32 z ^^^ BitVec.allOnes 32).toNat := by rw [BitVec.xor_allOnes]
  rw [BitVec.toNat_not, BitVec.toNat_xor, BitVec.toNat_ofNat, BitVec.toNat_allOnes, Nat.mod_eq_of_lt (by omega)] at e
  simpa using e
theorem crc_edge {p : List UInt8} {x a b : UInt8} (ha : a ≠ 0) : crc (p ++ [x ^^^ a]) ≠ crc (p ++ [x]) ^^^ b.toNat := by
  intro h
  have hp := reg_lt p (n := 4294967295) (by omega)
  have h1 := reg_lt (p ++ [x ^^^ a]) (n := 4294967295) (by omega)
  have h2 := reg_lt (p ++ [x]) (n := 4294967295) (by omega)
  unfold crc at h
  rw [not_xor h1, not_xor h2] at h
  refine reg_edge hp x a b ha ?_
  rw [← reg_append, ← reg_append]
  have := congrArg (fun z => z ^^^ 4294967295) h
  simp only [Nat.xor_assoc, Nat.xor_self, Nat.xor_zero] at this
  rw [this, Nat.xor_comm 4294967295, Nat.xor_assoc, Nat.xor_self, Nat.xor_zero]
theorem le4_head {c c' : Nat} {b : UInt8} (hc : c < 4294967296) (hc' : c' < 4294967296) (h : le4 c' = (nb c ^^^ b) :: (le4 c).tail) : c' = c ^^^ b.toNat := by
  simp only [le4, List.tail_cons, List.cons.injEq, nb_eq, and_true] at h
  obtain ⟨h0, h1, h2, h3⟩ := h
  have h0' : c' % 256 = (c % 256) ^^^ b.toNat := by
    have := congrArg UInt8.toNat h0
    rw [nb_toNat, UInt8.toNat_xor, nb_toNat] at this
    exact this
  have e : c ^^^ b.toNat = (c / 256) * 256 + ((c % 256) ^^^ b.toNat) := by
    have hb := byte_lt b
    have hx : (c % 256) ^^^ b.toNat < 2 ^ 8 := Nat.xor_lt_two_pow (by omega) (by omega)
    have hd : (c ^^^ b.toNat) / 256 = c / 256 := by
      rw [show (256 : Nat) = 2 ^ 8 from rfl, ← Nat.shiftRight_eq_div_pow, ← Nat.shiftRight_eq_div_pow, Nat.shiftRight_xor_distrib, Nat.shiftRight_eq_div_pow b.toNat, Nat.div_eq_of_lt (by omega), Nat.xor_zero]
    have hm : (c ^^^ b.toNat) % 256 = (c % 256) ^^^ b.toNat := by
      have : (c ^^^ b.toNat) % 2 ^ 8 = (c % 2 ^ 8) ^^^ (b.toNat % 2 ^ 8) := Nat.xor_mod_two_pow
      rw [Nat.mod_eq_of_lt (show b.toNat < 2 ^ 8 by omega)] at this
      exact this
    have := Nat.div_add_mod (c ^^^ b.toNat) 256
    rw [hd, hm] at this
    omega
  rw [e, ← h0']
  omega
theorem rec1_spoilt (k : Nat) (s rest : List UInt8) (n : Nat) (a b : UInt8) (hs : s.length ≤ 1000) (ha : a ≠ 0) (hn : n < (frame k s).length) : rec1 k (spoil (frame k s ++ rest) n a b) = none := by
  cases hr : rec1 k (spoil (frame k s ++ rest) n a b) with
  | none => rfl
  | some g =>
    exfalso
    obtain ⟨g1, g2, g3, g4, g5⟩ := rec1_len hr
    have hfl := frame_len k s
    generalize hF : spoil (frame k s ++ rest) n a b = F at *
    have hs' := Nat.lt_of_le_of_lt hs (by omega : 1000 < 65536)
    by_cases h4 : n < 4
    · -- the head
      have h3 : F.take 4 = hd4 g.length := by
        have := congrArg (List.take 4) g3
        rw [List.take_take, Nat.min_eq_left (by omega)] at this
        rw [this]; simp [frame, hd4]
      subst hF
      have hn4 : n = 0 ∨ n = 1 ∨ n = 2 ∨ n = 3 := by omega
      rcases hn4 with rfl | rfl | rfl | rfl
      · simp only [frame, hd4, List.cons_append, List.nil_append, List.append_assoc, spoil, List.take_succ_cons, List.take_zero, List.cons.injEq, nb_eq, and_true] at h3
        obtain ⟨e0, e1, e2, e3⟩ := h3
        refine ha (xor_self_of (e0.trans (nb_eq.2 ?_))); omega
      · simp only [frame, hd4, List.cons_append, List.nil_append, List.append_assoc, spoil, List.take_succ_cons, List.take_zero, List.cons.injEq, nb_eq, and_true] at h3
        obtain ⟨e0, e1, e2, e3⟩ := h3
        refine ha (xor_self_of (e1.trans (nb_eq.2 ?_))); omega
      · simp only [frame, hd4, List.cons_append, List.nil_append, List.append_assoc, spoil, List.take_succ_cons, List.take_zero, List.cons.injEq, nb_eq, and_true] at h3
        obtain ⟨e0, e1, e2, e3⟩ := h3
        refine ha (xor_self_of (e2.trans (nb_eq.2 ?_))); omega
      · obtain ⟨z, zs, hz⟩ : ∃ z zs, s ++ (le4 (fcrc k s) ++ rest) = z :: zs := by cases s <;> exact ⟨_, _, rfl⟩
        simp only [frame, hd4, List.cons_append, List.nil_append, List.append_assoc] at h3
        rw [hz] at h3
        simp only [spoil, List.take_succ_cons, List.take_zero, List.cons.injEq, nb_eq, and_true] at h3
        obtain ⟨e0, e1, e2, e3⟩ := h3
        refine ha (xor_self_of (e3.trans (nb_eq.2 ?_))); omega
    · obtain ⟨m, rfl⟩ : ∃ m, n = 4 + m := ⟨n - 4, by omega⟩
      have hFs : F = hd4 s.length ++ spoil (s ++ (le4 (fcrc k s) ++ rest)) m a b := by
        rw [← hF, frame, show 4 + m = (hd4 s.length).length + m from rfl, List.append_assoc, List.append_assoc, spoil_right]
      have hlen : g.length = s.length := by
        rw [g5, hFs]
        simp only [hd4, List.cons_append, len2, nb_toNat]; omega
      have h5 : (spoil (s ++ (le4 (fcrc k s) ++ rest)) m a b).take (s.length + 4) = g ++ le4 (fcrc k g) := by
        have := congrArg (List.drop 4) g3
        rw [hFs, hlen, show 8 + s.length = (hd4 s.length).length + (s.length + 4) from by simp [hd4]; omega, List.take_length_add_append] at this
        rw [frame, List.append_assoc] at this
        simpa [hd4] using this
      by_cases hm : m < s.length
      · -- in the body
        have hsp : s = s.take m ++ s[m] :: s.drop (m + 1) := by rw [← List.drop_eq_getElem_cons hm, List.take_append_drop]
        generalize hu : s.take m = u at hsp
        generalize hx : s[m] = x at hsp
        generalize hv : s.drop (m + 1) = v at hsp
        have hum : u.length = m := by rw [← hu]; simp; omega
        clear hu hx hv
        subst hsp
        subst hum
        cases v with
        | cons y v =>
          rw [List.append_assoc, show u.length = u.length + 0 from rfl, spoil_right] at h5
          simp only [List.cons_append, spoil] at h5
          rw [show u ++ (x ^^^ a) :: (y ^^^ b) :: (v ++ (le4 (fcrc k (u ++ x :: y :: v)) ++ rest)) = (u ++ (x ^^^ a) :: (y ^^^ b) :: v) ++ (le4 (fcrc k (u ++ x :: y :: v)) ++ rest) from by simp, List.take_append, List.take_of_length_le (by simp)] at h5
          obtain ⟨hg, hc⟩ := List.append_inj h5 (by rw [hlen]; simp)
          rw [show (u ++ x :: y :: v).length + 4 - (u ++ (x ^^^ a) :: (y ^^^ b) :: v).length = (le4 (fcrc k (u ++ x :: y :: v))).length from by simp [le4], List.take_left'] at hc
          · have := le4_inj (crc_lt _) (crc_lt _) hc
            rw [← hg] at this
            have := crc_inj this
            rw [show be4 k ++ (u ++ x :: y :: v) = ((be4 k ++ u) ++ [x, y]) ++ v from by simp, show be4 k ++ (u ++ (x ^^^ a) :: (y ^^^ b) :: v) = ((be4 k ++ u) ++ [x ^^^ a, y ^^^ b]) ++ v from by simp, reg_append, reg_append _ _ v] at this
            have h8 := reg_inj v (reg_lt _ (by omega)) (reg_lt _ (by omega)) this
            rw [reg_append, reg_append _ _ [x ^^^ a, y ^^^ b]] at h8
            exact reg_two (reg_lt _ (by omega)) x y a b ha h8.symm
          · rfl
        | nil =>
          rw [List.append_assoc, show u.length = u.length + 0 from rfl, spoil_right] at h5
          simp only [List.cons_append, le4, spoil, List.nil_append] at h5
          have e : u ++ (x ^^^ a) :: (nb (fcrc k (u ++ [x])) ^^^ b) :: nb (fcrc k (u ++ [x]) / 256) :: nb (fcrc k (u ++ [x]) / 65536) :: nb (fcrc k (u ++ [x]) / 16777216) :: rest = (u ++ [x ^^^ a]) ++ ([nb (fcrc k (u ++ [x])) ^^^ b, nb (fcrc k (u ++ [x]) / 256), nb (fcrc k (u ++ [x]) / 65536), nb (fcrc k (u ++ [x]) / 16777216)] ++ rest) := by simp
          rw [e] at h5
          rw [List.take_append, List.take_of_length_le (by simp)] at h5
          obtain ⟨hg, hc⟩ := List.append_inj h5 (by rw [hlen]; simp)
          rw [show (u ++ [x]).length + 4 - (u ++ [x ^^^ a]).length = 4 from by simp, List.take_append_of_le_length (by simp), List.take_of_length_le (by simp)] at hc
          have h6 := le4_head (c := fcrc k (u ++ [x])) (b := b) (crc_lt _) (crc_lt _) hc.symm
          rw [← hg] at h6
          unfold fcrc at h6
          rw [← List.append_assoc, ← List.append_assoc] at h6
          exact crc_edge ha h6
      · -- in the sum
        obtain ⟨j, rfl⟩ : ∃ j, m = s.length + j := ⟨m - s.length, by omega⟩
        rw [spoil_right, List.take_append, List.take_of_length_le (by omega)] at h5
        have hg := congrArg (List.take s.length) h5
        rw [List.take_left' rfl, List.take_left' hlen] at hg
        have hc := congrArg (List.drop s.length) h5
        rw [List.drop_left' rfl, List.drop_left' hlen, Nat.add_sub_cancel_left, ← hg] at hc
        have hj : j = 0 ∨ j = 1 ∨ j = 2 ∨ j = 3 := by omega
        rcases hj with rfl | rfl | rfl | rfl
        all_goals
          cases rest <;> simp only [le4, List.cons_append, List.nil_append, spoil, List.take_succ_cons, List.take_zero, List.cons.injEq] at hc
          all_goals
            first
              | exact ha (xor_self_of hc.1)
              | exact ha (xor_self_of hc.2.1)
              | exact ha (xor_self_of hc.2.2.1)
              | exact ha (xor_self_of hc.2.2.2.1)
theorem recAll_spoilt (a b : UInt8) (ha : a ≠ 0) : ∀ (l : List (List UInt8)) (k n : Nat), (∀ s ∈ l, s.length ≤ 1000) → n < (writeL k l).length → recAll k (spoil (writeL k l) n a b) = (l.take (whole k l n).1, (whole k l n).2)
  | [], k, n, _, hn => by simp [writeL] at hn
  | s :: l, k, n, h, hn => by
    rw [writeL, whole]
    by_cases hf : n < (frame k s).length
    · rw [if_pos hf, recAll_none (rec1_spoilt k s _ n a b (h s (by simp)) ha hf)]
      simp
    · obtain ⟨m, rfl⟩ : ∃ m, n = (frame k s).length + m := ⟨n - (frame k s).length, by omega⟩
      rw [writeL, List.length_append] at hn
      rw [if_neg hf, spoil_right, recAll_cons k s _ (h s (by simp)), Nat.add_sub_cancel_left, recAll_spoilt a b ha l (k + 1) m (fun x hx => h x (by simp [hx])) (by omega)]
      simp
end Lg
end Go.Proofs.Ythhhlaoiampinaa
namespace Go.Proofs.Ythhhlaoiampinaa
set_option maxRecDepth 20000
open Go.RowKit
namespace Bk
abbrev Vals := ByteArray → Option ByteArray
inductive Rec
  | set (k v : ByteArray)
  | del (k : ByteArray)
def enc : Rec → List UInt8
  | .set k v => 1 :: Lg.nb k.size :: (sl k ++ sl v)
  | .del k => 2 :: Lg.nb k.size :: sl k
def vput (f : Vals) (k v : ByteArray) : Vals := fun x => if x = k then some v else f x
def vdel (f : Vals) (k : ByteArray) : Vals := fun x => if x = k then none else f x
abbrev St := Vals × Nat
def s0 : St := (fun _ => none, 0)
def setE (s : St) (k v : ByteArray) : Int := if k.size = 0 ∨ 50 < k.size then 1 else if 900 < v.size then 2 else if s.1 k = none ∧ s.2 = 100 then 6 else 0
def delE (s : St) (k : ByteArray) : Int := if s.1 k = none then 4 else 0
def setS (s : St) (k v : ByteArray) : St := (vput s.1 k v, if (s.1 k).isSome then s.2 else s.2 + 1)
def delS (s : St) (k : ByteArray) : St := (vdel s.1 k, s.2 - 1)
def doR (s : St) : Rec → Option St
  | .set k v => if setE s k v = 0 then some (setS s k v) else none
  | .del k => if delE s k = 0 then some (delS s k) else none
def playFrom (s : St) : List Rec → Option St
  | [] => some s
  | r :: rs => match doR s r with | none => none | some s' => playFrom s' rs
def play (rs : List Rec) : Option St := playFrom s0 rs
def imgL (rs : List Rec) : List UInt8 := Lg.writeL 0 (rs.map enc)
theorem playFrom_cons (s : St) (r : Rec) (rs : List Rec) : playFrom s (r :: rs) = (doR s r).bind fun s' => playFrom s' rs := by
  show (match doR s r with | none => none | some s' => playFrom s' rs) = _
  cases doR s r <;> rfl
theorem playFrom_app : ∀ (a b : List Rec) (s : St), playFrom s (a ++ b) = (playFrom s a).bind fun s' => playFrom s' b
  | [], b, s => rfl
  | r :: a, b, s => by
    rw [List.cons_append, playFrom_cons, playFrom_cons]
    cases doR s r with
    | none => rfl
    | some s' => exact playFrom_app a b s'
theorem doR_set {s s' : St} {k v : ByteArray} (h : doR s (.set k v) = some s') : setE s k v = 0 ∧ s' = setS s k v := by
  have h1 : (if setE s k v = 0 then some (setS s k v) else none) = some s' := h
  split at h1
  · rename_i he; injection h1 with h1; exact ⟨he, h1.symm⟩
  · cases h1
theorem doR_del {s s' : St} {k : ByteArray} (h : doR s (.del k) = some s') : delE s k = 0 ∧ s' = delS s k := by
  have h1 : (if delE s k = 0 then some (delS s k) else none) = some s' := h
  split at h1
  · rename_i he; injection h1 with h1; exact ⟨he, h1.symm⟩
  · cases h1
theorem doR_set_of {s : St} {k v : ByteArray} (h : setE s k v = 0) : doR s (.set k v) = some (setS s k v) := by
  show (if setE s k v = 0 then some (setS s k v) else none) = _
  rw [if_pos h]
theorem doR_del_of {s : St} {k : ByteArray} (h : delE s k = 0) : doR s (.del k) = some (delS s k) := by
  show (if delE s k = 0 then some (delS s k) else none) = _
  rw [if_pos h]
theorem play_snoc (a : List Rec) (r : Rec) : play (a ++ [r]) = (play a).bind fun s => doR s r := by
  unfold play
  rw [playFrom_app]
  congr 1
  funext s
  rw [playFrom_cons]
  cases doR s r <;> rfl
theorem play_take {rs : List Rec} {s : St} (h : play rs = some s) (j : Nat) : ∃ s', play (rs.take j) = some s' := by
  rw [← List.take_append_drop j rs] at h
  unfold play at h ⊢
  rw [playFrom_app] at h
  cases hq : playFrom s0 (rs.take j) with
  | none => rw [hq] at h; cases h
  | some s' => exact ⟨s', rfl⟩
/-- What every state that was reached obeys. -/
structure Inv (s : St) : Prop where
  key : ∀ k v, s.1 k = some v → 1 ≤ k.size ∧ k.size ≤ 50 ∧ v.size ≤ 900
  many : s.2 ≤ 100
theorem Inv.start : Inv s0 := ⟨fun _ _ h => (by cases h), by decide⟩
theorem setE_ok {s : St} {k v : ByteArray} (h : setE s k v = 0) : 1 ≤ k.size ∧ k.size ≤ 50 ∧ v.size ≤ 900 ∧ ¬ (s.1 k = none ∧ s.2 = 100) := by
  unfold setE at h
  split at h
  · cases h
  · split at h
    · cases h
    · split at h
      · cases h
      · rename_i h1 h2 h3
        exact ⟨by omega, by omega, by omega, h3⟩
theorem delE_ok {s : St} {k : ByteArray} (h : delE s k = 0) : ∃ v, s.1 k = some v := by
  unfold delE at h
  split at h
  · cases h
  · rename_i h1
    cases hq : s.1 k with
    | none => exact absurd hq h1
    | some v => exact ⟨v, rfl⟩
theorem Inv.step {s s' : St} {r : Rec} (h : Inv s) (hd : doR s r = some s') : Inv s' := by
  cases r with
  | set k v =>
    obtain ⟨he, rfl⟩ := doR_set hd
    obtain ⟨h1, h2, h3, h4⟩ := setE_ok he
    refine ⟨fun k' v' hk => ?_, ?_⟩
    · unfold setS vput at hk
      simp only at hk
      split at hk
      · rename_i e
        injection hk with hk
        subst hk e
        exact ⟨h1, h2, h3⟩
      · exact h.key k' v' hk
    · show (if (s.1 k).isSome then s.2 else s.2 + 1) ≤ 100
      have := h.many
      split
      · exact this
      · rename_i hn
        have : s.1 k = none := by cases hq : s.1 k <;> simp_all
        have : s.2 ≠ 100 := fun e => h4 ⟨this, e⟩
        omega
  | del k =>
    obtain ⟨he, rfl⟩ := doR_del hd
    refine ⟨fun k' v' hk => ?_, ?_⟩
    · unfold delS vdel at hk
      simp only at hk
      split at hk
      · cases hk
      · exact h.key k' v' hk
    · show s.2 - 1 ≤ 100
      have := h.many
      omega
theorem Inv.of_play : ∀ {rs : List Rec} {a s : St}, Inv a → playFrom a rs = some s → Inv s
  | [], a, s, h, hp => by
    have hp' : some a = some s := hp
    injection hp' with hp'
    subst hp'
    exact h
  | r :: rs, a, s, h, hp => by
    rw [playFrom_cons] at hp
    cases hd : doR a r with
    | none => rw [hd] at hp; cases hp
    | some s' => rw [hd] at hp; exact Inv.of_play (h.step hd) hp
theorem inv_play {rs : List Rec} {s : St} (h : play rs = some s) : Inv s := Inv.of_play Inv.start h
theorem enc_len_set (k v : ByteArray) : (enc (.set k v)).length = 2 + k.size + v.size := by simp [enc, sl_len]; omega
theorem enc_len_del (k : ByteArray) : (enc (.del k)).length = 2 + k.size := by simp [enc, sl_len]; omega
theorem enc_le {s s' : St} {r : Rec} (h : Inv s) (hd : doR s r = some s') : (enc r).length ≤ 952 := by
  cases r with
  | set k v =>
    obtain ⟨he, rfl⟩ := doR_set hd
    obtain ⟨h1, h2, h3, h4⟩ := setE_ok he
    rw [enc_len_set]; omega
  | del k =>
    obtain ⟨he, rfl⟩ := doR_del hd
    obtain ⟨v, hv⟩ := delE_ok he
    have := h.key k v hv
    rw [enc_len_del]; omega
theorem encs_from : ∀ {rs : List Rec} {a s : St}, Inv a → playFrom a rs = some s → ∀ r ∈ rs, (enc r).length ≤ 952
  | [], a, s, h, hp, r, hr => by cases hr
  | q :: rs, a, s, h, hp, r, hr => by
    rw [playFrom_cons] at hp
    cases hd : doR a q with
    | none => rw [hd] at hp; cases hp
    | some s' =>
      rw [hd] at hp
      rcases List.mem_cons.1 hr with rfl | hr
      · exact enc_le h hd
      · exact encs_from (h.step hd) hp r hr
theorem encs_le {rs : List Rec} {s : St} (h : play rs = some s) : ∀ l ∈ rs.map enc, l.length ≤ 1000 := by
  intro l hl
  obtain ⟨r, hr, rfl⟩ := List.mem_map.1 hl
  have := encs_from Inv.start h r hr
  omega
theorem writeL_snoc : ∀ (l : List (List UInt8)) (k : Nat) (s : List UInt8), Lg.writeL k (l ++ [s]) = Lg.writeL k l ++ Lg.frame (k + l.length) s
  | [], k, s => by simp [Lg.writeL]
  | x :: l, k, s => by
    rw [List.cons_append]
    unfold Lg.writeL
    rw [writeL_snoc l (k + 1) s, List.append_assoc, List.length_cons, show k + 1 + l.length = k + (l.length + 1) by omega]
theorem imgL_snoc (rs : List Rec) (r : Rec) : imgL (rs ++ [r]) = imgL rs ++ Lg.frame rs.length (enc r) := by
  unfold imgL
  rw [List.map_append, List.map_singleton, writeL_snoc, List.length_map, Nat.zero_add]
theorem imgL_len {rs : List Rec} (h : ∀ r ∈ rs, (enc r).length ≤ 1000) : (imgL rs).length ≤ 1008 * rs.length := by
  have key : ∀ (rs : List Rec) (k : Nat), (∀ r ∈ rs, (enc r).length ≤ 1000) → (Lg.writeL k (rs.map enc)).length ≤ 1008 * rs.length := by
    intro rs
    induction rs with
    | nil => intro k _; simp [Lg.writeL]
    | cons r l ih =>
      intro k hr
      have h1 := ih (k + 1) (fun q hq => hr q (List.mem_cons_of_mem _ hq))
      have h2 := hr r (by simp)
      rw [List.map_cons]
      unfold Lg.writeL
      rw [List.length_append, Lg.frame_len, List.length_cons]
      omega
  exact key rs 0 h
end Bk
end Go.Proofs.Ythhhlaoiampinaa
