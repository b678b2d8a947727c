import Derived.Test.YtgnblkmpoigejaaGreatDoorU13
import Derived.Test.YtgnblkmpoigejaaGreatDoorChecked
import Derived.Test.YtgnblkmpoigejaaGreatDoorU0
import Derived.Test.YtgnblkmpoigejaaGreatDoorU9
import Derived.Shelf.SlGeneric
import Derived.Shelf.SlIter.Nil
import Derived.Shelf.SortM.Plain
import Derived.Shelf.SortM.SortNone
import Derived.Ground.GgzProg
import Derived.Ground.SlgmProg
import Derived.Test.YtgnblkmpoigejaaGreatDoorProg
import Derived.Test.YtgnblkmpoigejaaGreatDoorU1
import Derived.Maps.Own
import Derived.Maps.OwnSet
import Derived.Maps.Keyed
import Derived.StringKeys
set_option linter.unusedVariables false
set_option linter.unusedSimpArgs false
namespace Go.Proofs.YtgnblkmpoigejaaGreatDoor
set_option maxRecDepth 20000
open Go.RowKit
def cutAt (c : UInt8) : List UInt8 → Option (List UInt8 × List UInt8)
 | [] => none
 | x :: l => if x = c then some ([], l) else (cutAt c l).map (fun p => (x :: p.1, p.2))
theorem cutAt_some {c : UInt8} : ∀ {l a b : List UInt8}, l = a ++ c :: b → c ∉ a → cutAt c l = some (a, b)
 | _, [], b, rfl, _ => by simp [cutAt]
 | _, x :: a, b, rfl, h => by
  have hx : x ≠ c := fun e => h (by simp [e])
  simp only [List.cons_append, cutAt, if_neg hx, cutAt_some (l := a ++ c :: b) rfl (fun e => h (by simp [e])), Option.map_some]
theorem cutAt_none {c : UInt8} : ∀ {l : List UInt8}, c ∉ l → cutAt c l = none
 | [], _ => rfl
 | x :: l, h => by
  have hx : x ≠ c := fun e => h (by simp [e])
  have hl : c ∉ l := fun e => h (List.mem_cons_of_mem _ e)
  simp only [cutAt, if_neg hx, cutAt_none hl, Option.map_none]
def dirD (p : ByteArray) : Option Dr :=
 match cutAt 61 (sl p) with
 | some (a, b) => if Tok.isTok (mkS a) = true then (if Tok.isTok (mkS b) = true then some (lowT (mkS a), true, mkS b) else (Tok.unquoteL b).map (fun u => (lowT (mkS a), true, mkS u))) else none
 | none => if Tok.isTok p = true then some (lowT p, false, ByteArray.empty) else none
def DirAns (p : ByteArray) (e : Ending) : Prop :=
 (∃ d, dirD p = some d ∧ e = .returned (.tuple #[vDr d, .bool true])) ∨ (dirD p = none ∧ ∃ d : Dr, e = .returned (.tuple #[vDr d, .bool false]))
theorem escs_ge : ∀ l : List UInt8, l.length ≤ (Tok.escs l).length
 | [] => by simp [Tok.escs]
 | c :: l => by
  have ih := escs_ge l
  have : 1 ≤ (Tok.esc c).length := by unfold Tok.esc; split <;> simp
  simp only [Tok.escs, List.flatMap_cons, List.length_append, List.length_cons] at ih ⊢; omega
theorem three_set (w2 : World) (g : Nat) (h : g < w2.heap.size) {x0 x1 x2 : Value} (u0 u1 u2 : Value) (d0 : w2.cell? ⟨g, 0, none⟩ = some x0) (d1 : w2.cell? ⟨g, 1, none⟩ = some x1) (d2 : w2.cell? ⟨g, 2, none⟩ = some x2) (w3 : World)
  (hb : Below w2.heap.size (((w2.setCell ⟨g, 0, none⟩ u0).setCell ⟨g, 1, none⟩ u1).setCell ⟨g, 2, none⟩ u2) w3) :
  w3.cell? ⟨g, 0, none⟩ = some u0 ∧ w3.cell? ⟨g, 1, none⟩ = some u1 ∧ w3.cell? ⟨g, 2, none⟩ = some u2 := by
 refine ⟨(hb.cell h).trans ?_, (hb.cell h).trans ?_, (hb.cell h).trans ?_⟩ <;> simp [go_sem, d0, d1, d2]
set_option maxHeartbeats 3200000 in
theorem directive_any (p : ByteArray) (w : World) (hp : p.size ≤ 1000) :
  Calls Tryz.prog 120 #[.string p] w fun e w' => DirAns p e ∧ Below w.heap.size w w' := by
 have hC := Lib.hid (fun w => cut_one p 61 w (by omega))
 have hD : Hid (dirD p = match cutAt 61 (sl p) with
  | some (a, b) => if Tok.isTok (mkS a) = true then (if Tok.isTok (mkS b) = true then some (lowT (mkS a), true, mkS b) else (Tok.unquoteL b).map (fun u => (lowT (mkS a), true, mkS u))) else none
  | none => if Tok.isTok p = true then some (lowT p, false, ByteArray.empty) else none) := rfl
 unfold DirAns
 generalize dirD p = dd at *
 go_enter Tryz.func120, Tryz.ntmps120
 go_wp2_with fail
 refine (hC.out _).mono ?_
 rintro e w1 ⟨hans, b1⟩
 rcases hans with ⟨a, b, h1, h2, rfl⟩ | ⟨h1, rfl⟩
 ·have hd := hD.out
  rw [cutAt_some h1 h2] at hd
  dsimp only at hd
  have hab : (mkS a).size ≤ 1000 ∧ (mkS b).size ≤ 1000 ∧ b.length ≤ 1000 := by
   have := congrArg List.length h1
   rw [sl_len, List.length_append, List.length_cons] at this
   rw [mkS_size, mkS_size]; omega
  obtain ⟨ha, hb, hbl⟩ := hab
  have HI := Lib.hid (fun w => isToken_any (mkS a) w (by omega))
  have HJ := Lib.hid (fun w => isToken_any (mkS b) w (by omega))
  have HU := Lib.hid (fun w => unquote_walk (mkS b) w (by omega))
  have HLo := Lib.hid (fun w => lower_any (mkS a) w (by omega))
  rw [show mkS (Tok.low (sl (mkS a))) = lowT (mkS a) from rfl] at HLo
  have HD := Lib.hid hd
  have HB : Hid (sl (mkS b) = b) := sl_mkS b
  clear hd h1 h2
  obtain ⟨A, hA⟩ : ∃ A, mkS a = A := ⟨_, rfl⟩
  obtain ⟨B, hB⟩ : ∃ B, mkS b = B := ⟨_, rfl⟩
  obtain ⟨n, hn⟩ : ∃ n, lowT A = n := ⟨_, rfl⟩
  rw [hA] at HI HLo HD ha ⊢
  rw [hB] at HJ HU HD HB hb ⊢
  rw [hn] at HLo HD
  clear hA hB hn
  have b01 : Below w.heap.size w w1 := ((Below.refl _ _).alloc (Nat.le_refl _) _).trans (b1.mono (by simp))
  have hz : w.heap.size < w1.heap.size := by have := b1.size; simp at this; omega
  have c0 : w1.cell? ⟨w.heap.size, 0, none⟩ = some (.string ByteArray.empty) := (b1.cell (by simp)).trans (by go_simp; rfl)
  have c1 : w1.cell? ⟨w.heap.size, 1, none⟩ = some (.bool false) := (b1.cell (by simp)).trans (by go_simp)
  have c2 : w1.cell? ⟨w.heap.size, 2, none⟩ = some (.string ByteArray.empty) := (b1.cell (by simp)).trans (by go_simp; rfl)
  have f0 : w1.frozen? ⟨w.heap.size, 0, none⟩ = false := (b1.frozen (by simp)).trans (by go_simp)
  have f1 : w1.frozen? ⟨w.heap.size, 1, none⟩ = false := (b1.frozen (by simp)).trans (by go_simp)
  have f2 : w1.frozen? ⟨w.heap.size, 2, none⟩ = false := (b1.frozen (by simp)).trans (by go_simp)
  clear b1
  go_wp2_with fail
  refine (HLo.out _).mono ?_
  rintro e w2 ⟨rfl, b2⟩
  have b02 := b01.trans (b2.mono b01.size)
  have hz2 := Nat.lt_of_lt_of_le hz b2.size
  have d0 := (b2.cell hz).trans c0
  have d1 := (b2.cell hz).trans c1
  have d2 := (b2.cell hz).trans c2
  have g0 := (b2.frozen hz).trans f0
  have g1 := (b2.frozen hz).trans f1
  have g2 := (b2.frozen hz).trans f2
  clear c0 c1 c2 f0 f1 f2 b2
  have HE : Hid (∀ (J : Bool) (o : Option Dr), dd = (if J = true then o else none) → ∀ d : Dr, (J = true → o = some d) → ((∃ d', dd = some d' ∧ Ending.returned (.tuple #[vDr d, .bool J]) = .returned (.tuple #[vDr d', .bool true])) ∨ (dd = none ∧ ∃ d' : Dr, Ending.returned (.tuple #[vDr d, .bool J]) = .returned (.tuple #[vDr d', .bool false])))) := by
   intro J o h d ho
   cases J
   ·exact .inr ⟨h, d, rfl⟩
   ·exact .inl ⟨d, by rw [h, ← ho rfl]; rfl, rfl⟩
  obtain ⟨J, hJA⟩ : ∃ J, Tok.isTok A = J := ⟨_, rfl⟩
  rw [hJA] at HI HD
  cases hJ : Tok.isTok B
  ·rw [hJ] at HJ HD
   clear hJ
   go_wp2_with fail
   refine (HJ.out _).mono ?_
   rintro e w' ⟨rfl, rfl⟩
   go_wp2_with fail
   refine (HU.out _).mono ?_
   rintro e w3 ⟨hU, b3⟩
   have hz3 : w2.heap.size < w3.heap.size := by have := b3.size; simp at this; omega
   have e0 : w3.cell? ⟨w2.heap.size, 0, none⟩ = some (.string n) := (b3.cell (by simp)).trans (by go_simp)
   have e1 : w3.cell? ⟨w2.heap.size, 1, none⟩ = some (.bool true) := (b3.cell (by simp)).trans (by go_simp)
   have e2 : w3.cell? ⟨w2.heap.size, 2, none⟩ = some (.string B) := (b3.cell (by simp)).trans (by go_simp)
   have b23 : Below w2.heap.size w2 w3 := ((Below.refl _ _).alloc (Nat.le_refl _) _).trans (b3.mono (by simp))
   have b03 := b02.trans (b23.mono b02.size)
   have l0 := (b23.cell hz2).trans d0
   have l1 := (b23.cell hz2).trans d1
   have l2 := (b23.cell hz2).trans d2
   have m0 := (b23.frozen hz2).trans g0
   have m1 := (b23.frozen hz2).trans g1
   have m2 := (b23.frozen hz2).trans g2
   have q2 : w3.frozen? ⟨w2.heap.size, 2, none⟩ = false := (b3.frozen (by simp)).trans (by go_simp)
   have hz03 := Nat.lt_trans hz2 hz3
   clear d0 d1 d2 g0 g1 g2 b3
   unfold UnqEnd at hU
   rw [HB.out] at hU
   rcases hU with ⟨h1, rfl⟩ | ⟨u, h1, h2⟩
   ·have HN : Hid (dd = none) := by
     have := HD.out
     rw [h1] at this
     show dd = none
     rw [this]; cases J <;> rfl
    clear h1
    go_wp2_with fail
    obtain ⟨k0, k1, k2⟩ := three_set w3 w.heap.size hz03 (.string n) (.bool true) (.string B) l0 l1 l2 _ (Below.refl _ _)
    refine bodyPost_ret (v := .tuple #[vDr (n, true, B), .bool false]) (by simp [results, Tryz.results120, go_sem, vDr, k0, k1, k2]) rfl ⟨.inr ⟨HN.out, _, rfl⟩, ?_⟩
    exact ((b03.setCell (p := ⟨w.heap.size, 0, none⟩) (Nat.le_refl _) _).setCell (p := ⟨w.heap.size, 1, none⟩) (Nat.le_refl _) _).setCell (p := ⟨w.heap.size, 2, none⟩) (Nat.le_refl _) _
   ·have HN : Hid (dd = if J = true then some (n, true, mkS u) else none) := by
     have := HD.out
     rw [h1] at this
     exact this
    have hu : u.length ≤ 1000 := by have h4 := (Tok.unquote_some h1).1; have h5 := escs_ge u; simp [Tok.quoteL] at h4; omega
    clear h1
    rcases h2 with ⟨h3, _⟩ | ⟨_, rfl⟩
    ·omega
    ·obtain ⟨U, hU⟩ : ∃ U, mkS u = U := ⟨_, rfl⟩
     rw [hU] at HN ⊢
     clear hU
     go_wp2_with (go_region_with (go_at_call 84; refine (HI.out _).mono ?_; rintro e w' ⟨rfl, rfl⟩))
     all_goals
      have bb : Below w2.heap.size w3 (w3.setCell ⟨w2.heap.size, 2, none⟩ (.string U)) := (Below.refl _ _).setCell (p := ⟨w2.heap.size, 2, none⟩) (Nat.le_refl _) _
      obtain ⟨k0, k1, k2⟩ := three_set (w3.setCell ⟨w2.heap.size, 2, none⟩ (.string U)) w.heap.size (Nat.lt_of_lt_of_le hz03 bb.size) (.string n) (.bool true) (.string U) ((bb.cell hz2).trans l0) ((bb.cell hz2).trans l1) ((bb.cell hz2).trans l2) _ (Below.refl _ _).drew
      refine bodyPost_ret (v := .tuple #[vDr (n, true, U), .bool J]) (by simp [results, Tryz.results120, go_sem, vDr, k0, k1, k2]) rfl ⟨HE.out _ _ HN.out _ (fun _ => rfl), ?_⟩
      exact ((((b03.setCell (p := ⟨w2.heap.size, 2, none⟩) b02.size _).setCell (p := ⟨w.heap.size, 0, none⟩) (Nat.le_refl _) _).setCell (p := ⟨w.heap.size, 1, none⟩) (Nat.le_refl _) _).setCell (p := ⟨w.heap.size, 2, none⟩) (Nat.le_refl _) _).drew
  ·rw [hJ] at HJ HD
   clear hJ
   go_wp2_with fail
   refine (HJ.out _).mono ?_
   rintro e w' ⟨rfl, rfl⟩
   go_wp2_with (go_region_with (go_at_call 84; refine (HI.out _).mono ?_; rintro e w' ⟨rfl, rfl⟩))
   all_goals
    obtain ⟨k0, k1, k2⟩ := three_set w2 w.heap.size hz2 (.string n) (.bool true) (.string B) d0 d1 d2 _ (((Below.refl _ _).alloc (by simp) (.cells #[.string n, .bool true, .string B] 151)).drew)
    refine bodyPost_ret (v := .tuple #[vDr (n, true, B), .bool J]) (by simp [results, Tryz.results120, go_sem, vDr, k0, k1, k2]) rfl ⟨HE.out _ _ HD.out _ (fun _ => rfl), ?_⟩
    exact ((((b02.setCell (p := ⟨w.heap.size, 0, none⟩) (Nat.le_refl _) _).setCell (p := ⟨w.heap.size, 1, none⟩) (Nat.le_refl _) _).setCell (p := ⟨w.heap.size, 2, none⟩) (Nat.le_refl _) _).alloc (by simp; omega) _).drew
 ·have hd := hD.out
  rw [cutAt_none h1] at hd
  dsimp only at hd
  have HI := Lib.hid (fun w => isToken_any p w (by omega))
  have HLo := Lib.hid (fun w => lower_any p w (by omega))
  rw [show mkS (Tok.low (sl p)) = lowT p from rfl] at HLo
  have HD := Lib.hid hd
  clear hd h1
  obtain ⟨n, hn⟩ : ∃ n, lowT p = n := ⟨_, rfl⟩
  rw [hn] at HLo HD
  clear hn
  have b01 : Below w.heap.size w w1 := ((Below.refl _ _).alloc (Nat.le_refl _) _).trans (b1.mono (by simp))
  have hz : w.heap.size < w1.heap.size := by have := b1.size; simp at this; omega
  have c0 : w1.cell? ⟨w.heap.size, 0, none⟩ = some (.string ByteArray.empty) := (b1.cell (by simp)).trans (by go_simp; rfl)
  have c1 : w1.cell? ⟨w.heap.size, 1, none⟩ = some (.bool false) := (b1.cell (by simp)).trans (by go_simp)
  have c2 : w1.cell? ⟨w.heap.size, 2, none⟩ = some (.string ByteArray.empty) := (b1.cell (by simp)).trans (by go_simp; rfl)
  have f0 : w1.frozen? ⟨w.heap.size, 0, none⟩ = false := (b1.frozen (by simp)).trans (by go_simp)
  have f1 : w1.frozen? ⟨w.heap.size, 1, none⟩ = false := (b1.frozen (by simp)).trans (by go_simp)
  have f2 : w1.frozen? ⟨w.heap.size, 2, none⟩ = false := (b1.frozen (by simp)).trans (by go_simp)
  clear b1
  go_wp2_with fail
  refine (HLo.out _).mono ?_
  rintro e w2 ⟨rfl, b2⟩
  have b02 := b01.trans (b2.mono b01.size)
  have hz2 := Nat.lt_of_lt_of_le hz b2.size
  have d0 := (b2.cell hz).trans c0
  have d1 := (b2.cell hz).trans c1
  have d2 := (b2.cell hz).trans c2
  have g0 := (b2.frozen hz).trans f0
  have g1 := (b2.frozen hz).trans f1
  have g2 := (b2.frozen hz).trans f2
  clear c0 c1 c2 f0 f1 f2 b2
  have HE : Hid (∀ (J : Bool) (o : Option Dr), dd = (if J = true then o else none) → ∀ d : Dr, (J = true → o = some d) → ((∃ d', dd = some d' ∧ Ending.returned (.tuple #[vDr d, .bool J]) = .returned (.tuple #[vDr d', .bool true])) ∨ (dd = none ∧ ∃ d' : Dr, Ending.returned (.tuple #[vDr d, .bool J]) = .returned (.tuple #[vDr d', .bool false])))) := by
   intro J o h d ho
   cases J
   ·exact .inr ⟨h, d, rfl⟩
   ·exact .inl ⟨d, by rw [h, ← ho rfl]; rfl, rfl⟩
  obtain ⟨J, hJA⟩ : ∃ J, Tok.isTok p = J := ⟨_, rfl⟩
  rw [hJA] at HI HD
  go_wp2_with (go_region_with (go_at_call 84; refine (HI.out _).mono ?_; rintro e w' ⟨rfl, rfl⟩))
  all_goals
   obtain ⟨k0, k1, k2⟩ := three_set w2 w.heap.size hz2 (.string n) (.bool false) (.string ByteArray.empty) d0 d1 d2 _ (((Below.refl _ _).alloc (by simp) (.cells #[.string n, .bool false, .string ByteArray.empty] 151)).drew)
   refine bodyPost_ret (v := .tuple #[vDr (n, false, ByteArray.empty), .bool J]) (by simp [results, Tryz.results120, go_sem, vDr, k0, k1, k2]) rfl ⟨HE.out _ _ HD.out _ (fun _ => rfl), ?_⟩
   exact ((((b02.setCell (p := ⟨w.heap.size, 0, none⟩) (Nat.le_refl _) _).setCell (p := ⟨w.heap.size, 1, none⟩) (Nat.le_refl _) _).setCell (p := ⟨w.heap.size, 2, none⟩) (Nat.le_refl _) _).alloc (by simp; omega) _).drew
theorem flat3r {α : Type} {en : α → List Value} (hen : ∀ x, (en x).length = 3) : ∀ (xs : List α) (k i : Nat) (x : α) (u : Value), xs[k]? = some x → i < 3 → (en x)[i]? = some u → (xs.flatMap en)[k * 3 + i]? = some u
 | [], k, i, x, u, h, _, _ => by simp at h
 | y :: ys, 0, i, x, u, h, hi, hu => by
  simp at h; subst h
  rw [List.flatMap_cons, Nat.zero_mul, Nat.zero_add, List.getElem?_append_left (by rw [hen]; exact hi)]; exact hu
 | y :: ys, k + 1, i, x, u, h, hi, hu => by
  rw [List.flatMap_cons, List.getElem?_append_right (by rw [hen]; omega), hen, show (k + 1) * 3 + i - 3 = k * 3 + i from by omega]
  exact flat3r hen ys k i x u (by simpa using h) hi hu
theorem SlR.three {α : Type} {en : α → List Value} {w : World} {v : Value} {xs : List α} (hen : ∀ x, (en x).length = 3) (h : SlR w en v xs) (hn : 0 < xs.length) :
  ∃ b off c, v = .slice (some ⟨b, off, none⟩) xs.length c ∧ b < w.heap.size ∧ ∀ k (hk : k < xs.length) (u0 u1 u2 : Value), (en xs[k])[0]? = some u0 → (en xs[k])[1]? = some u1 → (en xs[k])[2]? = some u2 → w.cell? ⟨b, off + k * 3, none⟩ = some u0 ∧ w.cell? ⟨b, off + k * 3 + 1, none⟩ = some u1 ∧ w.cell? ⟨b, off + k * 3 + 2, none⟩ = some u2 := by
 obtain ⟨A, c, hv, hc, hx⟩ := h
 obtain ⟨b, off, rfl, hb, hcell⟩ := hx hn
 exact ⟨b, off, c, hv, hb, fun k hk u0 u1 u2 h0 h1 h2 => ⟨hcell (k * 3 + 0) u0 (flat3r hen xs k 0 _ u0 (List.getElem?_eq_getElem hk) (by omega) h0), hcell (k * 3 + 1) u1 (flat3r hen xs k 1 _ u1 (List.getElem?_eq_getElem hk) (by omega) h1), hcell (k * 3 + 2) u2 (flat3r hen xs k 2 _ u2 (List.getElem?_eq_getElem hk) (by omega) h2)⟩⟩
set_option maxRecDepth 20000
set_option maxRecDepth 20000
namespace Tok
theorem cutL_short (sign : UInt8) : ∀ (n : Nat) (l : List UInt8) (q : Bool) (cur : List UInt8) (ps : List (List UInt8)), l.length ≤ n → cutL sign q cur l = some ps → ∀ p ∈ ps, p.length ≤ cur.length + l.length
 | _, [], q, cur, ps, _, h, p, hp => by
  unfold cutL at h
  cases q
  ·simp only [Bool.false_eq_true, if_false, Option.some.injEq] at h; subst h; rw [List.mem_singleton] at hp; subst hp; omega
  ·simp at h
 | 0, c :: l, _, _, _, hn, _, _, _ => by simp at hn
 | n + 1, c :: l, q, cur, ps, hn, h, p, hp => by
  simp only [List.length_cons] at hn
  unfold cutL at h
  split at h
  ·have := cutL_short sign n l _ _ ps (by omega) h p hp
   simp only [List.length_append, List.length_cons, List.length_nil] at this ⊢; omega
  ·split at h
   ·cases l with
    | nil => simp at h
    | cons d l =>
     simp only [List.length_cons] at hn
     have := cutL_short sign n l _ _ ps (by omega) h p hp
     simp only [List.length_append, List.length_cons, List.length_nil] at this ⊢; omega
   ·split at h
    ·obtain ⟨qs, hq, rfl⟩ := Option.map_eq_some_iff.1 h
     rcases List.mem_cons.1 hp with rfl | hp
     ·omega
     ·have := cutL_short sign n l _ _ qs (by omega) hq p hp
      simp only [List.length_cons, List.length_nil] at this ⊢; omega
    ·have := cutL_short sign n l _ _ ps (by omega) h p hp
     simp only [List.length_append, List.length_cons, List.length_nil] at this ⊢; omega
theorem trimL_le (l : List UInt8) : (trimL l).length ≤ l.length := by
 unfold trimL
 rw [List.length_reverse]
 refine Nat.le_trans (List.dropWhile_sublist _).length_le ?_
 rw [List.length_reverse]
 exact (List.dropWhile_sublist _).length_le
theorem split_short {l : List UInt8} {ps : List (List UInt8)} (h : splitL l = .ok ps) : (∀ p ∈ ps, p.length ≤ 1000) ∧ ps.length ≤ 20 ∧ l.length ≤ 1000 := by
 unfold splitL at h
 split at h
 ·cases h
 ·rename_i hl
  cases hc : cutL 44 false [] l with
  | none => rw [hc] at h; cases h
  | some qs =>
   rw [hc] at h
   dsimp only at h
   split at h
   ·cases h
   ·rename_i h20
    injection h with h
    subst h
    refine ⟨fun p hp => ?_, by omega, by omega⟩
    obtain ⟨q, hq, rfl⟩ := List.mem_map.1 (List.mem_filter.1 hp).1
    have h1 := trimL_le q
    have h2 := cutL_short 44 _ l _ _ qs (Nat.le_refl _) hc q hq
    simp only [List.length_nil] at h2; omega
end Tok
structure Dir (p : ByteArray) (d : Dr) : Prop where
 name : Tok.isTok d.1 = true
 low : lowT d.1 = d.1
 text : (d.2.1 = false ∧ d.2.2 = ByteArray.empty ∧ sl p = sl d.1) ∨ (d.2.1 = true ∧ sl p = sl d.1 ++ 61 :: sl d.2.2 ∧ Tok.isTok d.2.2 = true) ∨
  (d.2.1 = true ∧ Tok.isTok d.2.2 = false ∧ sl p = sl d.1 ++ 61 :: Tok.quoteL (sl d.2.2) ∧ (sl d.2.2).all Tok.plainB = true)
set_option maxRecDepth 20000
namespace Vy
def nVary : ByteArray := ⟨#[86, 97, 114, 121]⟩
def txt (l : List Fld) (n : ByteArray) : ByteArray := joinS (selF l n) sep2
def isR (l : List Fld) (n : ByteArray) : Bool := decide (0 < (selF l n).length)
def isStar (p : ByteArray) : Bool := p.toList == [42]
def lowsOf (ps : List ByteArray) : List ByteArray := (ps.filter (fun p => !isStar p)).map lowS
def nmF (s : ByteArray) : List ByteArray × Bool × Int :=
 match Tok.splitL (sl s) with
 | .error c => ([], false, c)
 | .ok ps => if (ps.map mkS).all Tok.isTok = true then (lowsOf (ps.map mkS), (ps.map mkS).any isStar, 0) else ([], false, 3)
def diff (a b : List Fld) (n : ByteArray) : Bool := decide (isR a n ≠ isR b n) || decide (txt a n ≠ txt b n)
def matF (s : ByteArray) (a b : List Fld) : Bool × Int :=
 if (nmF s).2.2 = 0 then (!((nmF s).2.1 || (nmF s).1.any (diff a b)), 0) else (false, (nmF s).2.2)
theorem split_code {l : List UInt8} {c : Int} (h : Tok.splitL l = .error c) : 2 ≤ c ∧ c ≤ 3 := by
 unfold Tok.splitL at h
 split at h
 ·injection h with h; omega
 ·split at h
  ·injection h with h; omega
  ·split at h
   ·injection h with h; omega
   ·cases h
theorem split_short {l : List UInt8} {ps : List (List UInt8)} (h : Tok.splitL l = .ok ps) : (∀ p ∈ ps, p.length ≤ 1000) ∧ ps.length ≤ 20 := by
 obtain ⟨h1, h2, -⟩ := Tok.split_short h
 exact ⟨h1, h2⟩
theorem nmF_code (s : ByteArray) : 0 ≤ (nmF s).2.2 ∧ (nmF s).2.2 ≤ 3 := by
 unfold nmF
 split
 ·rename_i c h; have := split_code h; dsimp only; omega
 ·split <;> dsimp only <;> omega
theorem nmF_small (s : ByteArray) : (nmF s).1.length ≤ 20 ∧ ∀ x ∈ (nmF s).1, x.size ≤ 1000 := by
 unfold nmF
 split
 ·exact ⟨Nat.zero_le _, fun x h => by cases h⟩
 ·rename_i ps hs
  obtain ⟨h1, h2⟩ := split_short hs
  split
  ·refine ⟨Nat.le_trans (by unfold lowsOf; rw [List.length_map]; exact List.length_filter_le _ _) (by rw [List.length_map]; exact h2), fun x hx => ?_⟩
   obtain ⟨p, hp, rfl⟩ := List.mem_map.1 hx
   obtain ⟨q, hq, rfl⟩ := List.mem_map.1 (List.mem_filter.1 hp).1
   rw [lowS_size, mkS_size]; exact h1 q hq
  ·exact ⟨Nat.zero_le _, fun x h => by cases h⟩
end Vy
end Go.Proofs.YtgnblkmpoigejaaGreatDoor
namespace Go.Proofs
open Go.Shelf
def Tryz.keys86_ren : Go.Shelf.Ren := ⟨fun | 7 => 86 | 10 => 125 | n => n, fun | 23 => 137 | 26 => 9 | 3 => 3 | 28 => 143 | 0 => 0 | 27 => 132 | 33 => 88 | 4 => 4 | n => n, fun | n => n⟩
theorem Tryz.keys86 : Go.Proofs.SlLaysZ.n7 Tryz.prog Tryz.keys86_ren := {
 mixed := by kernel_rfl
 f7 := ⟨Tryz.f86.name, by decide, Tryz.func86.trans (congrArg some (by kernel_rfl))⟩
 f10 := ⟨Tryz.f125.name, by decide, Tryz.func125.trans (congrArg some (by kernel_rfl))⟩
 t0 := Tryz.underlying0
 a0 := Tryz.isAgg0
 z0 := Tryz.sizeOf0
 v0 := Tryz.zeroValue0
 t4 := Tryz.underlying4
 a4 := Tryz.isAgg4
 z4 := Tryz.sizeOf4
 v4 := Tryz.zeroValue4
 t23 := Tryz.underlying137
 a23 := Tryz.isAgg137
 z23 := Tryz.sizeOf137
 v23 := Tryz.zeroValue137
 t26 := Tryz.underlying9
 a26 := Tryz.isAgg9
 z26 := Tryz.sizeOf9
 v26 := Tryz.zeroValue9
 t27 := Tryz.underlying132
 a27 := Tryz.isAgg132
 z27 := Tryz.sizeOf132
 v27 := Tryz.zeroValue132
 t28 := Tryz.underlying143
 a28 := Tryz.isAgg143
 z28 := Tryz.sizeOf143
 v28 := Tryz.zeroValue143
 t33 := Tryz.underlying88
 a33 := Tryz.isAgg88
 z33 := Tryz.sizeOf88
 v33 := Tryz.zeroValue88 }
def Tryz.sorted85_ren : Go.Shelf.Ren := ⟨fun | 6 => 85 | 8 => 123 | 9 => 124 | 11 => 167 | 13 => 169 | 12 => 168 | 23 => 211 | 24 => 197 | 14 => 202 | 15 => 203 | 16 => 204 | 17 => 205 | 18 => 206 | 19 => 207 | 20 => 208 | 21 => 209 | 22 => 210 | 25 => 228 | 26 => 229 | 27 => 230 | 28 => 231 | 29 => 232 | 30 => 233 | 31 => 248 | n => n, fun | 26 => 9 | 28 => 143 | 24 => 59 | 0 => 0 | 3 => 3 | 37 => 155 | 48 => 211 | 50 => 210 | 4 => 4 | 40 => 262 | 39 => 261 | 45 => 103 | 5 => 5 | 9 => 9 | 51 => 288 | 55 => 292 | 57 => 305 | 58 => 306 | 33 => 88 | n => n, fun | n => n⟩
theorem Tryz.sorted85 : Go.Proofs.SlLaysZ.n6 Tryz.prog Tryz.sorted85_ren := {
 mixed := by kernel_rfl
 f6 := ⟨Tryz.f85.name, by decide, Tryz.func85.trans (congrArg some (by kernel_rfl))⟩
 f8 := ⟨Tryz.f123.name, by decide, Tryz.func123.trans (congrArg some (by kernel_rfl))⟩
 f11 := ⟨Tryz.f167.name, by decide, Tryz.func167.trans (congrArg some (by kernel_rfl))⟩
 t0 := Tryz.underlying0
 a0 := Tryz.isAgg0
 z0 := Tryz.sizeOf0
 v0 := Tryz.zeroValue0
 t24 := Tryz.underlying59
 a24 := Tryz.isAgg59
 z24 := Tryz.sizeOf59
 v24 := Tryz.zeroValue59
 t26 := Tryz.underlying9
 a26 := Tryz.isAgg9
 z26 := Tryz.sizeOf9
 v26 := Tryz.zeroValue9
 t28 := Tryz.underlying143
 a28 := Tryz.isAgg143
 z28 := Tryz.sizeOf143
 v28 := Tryz.zeroValue143
 i26 := by kernel_rfl }
def Tryz.sort124_ren : Go.Shelf.Ren := ⟨fun | 6 => 124 | 8 => 169 | 9 => 168 | 19 => 211 | 20 => 197 | 21 => 202 | 22 => 203 | 23 => 204 | 24 => 205 | 25 => 206 | 26 => 207 | 27 => 208 | 28 => 209 | 29 => 210 | 36 => 228 | 31 => 229 | 32 => 230 | 37 => 231 | 38 => 232 | 39 => 233 | 41 => 248 | n => n, fun | 27 => 59 | 29 => 9 | 3 => 3 | 32 => 155 | 26 => 59 | 0 => 0 | 44 => 211 | 46 => 210 | 4 => 4 | 36 => 262 | 35 => 261 | 41 => 103 | 5 => 5 | 9 => 9 | 53 => 288 | 57 => 292 | 63 => 305 | 64 => 306 | n => n, fun | n => n⟩
theorem Tryz.sort124 : Go.Proofs.SlLaysM.n6 Tryz.prog Tryz.sort124_ren := {
 mixed := by kernel_rfl
 f6 := ⟨Tryz.f124.name, by decide, Tryz.func124.trans (congrArg some (by kernel_rfl))⟩
 f8 := Tryz.func169.trans (congrArg some (by kernel_rfl))
 f9 := ⟨Tryz.f168.name, by decide, Tryz.func168.trans (congrArg some (by kernel_rfl))⟩
 f19 := Tryz.func211.trans (congrArg some (by kernel_rfl))
 f20 := Tryz.func197.trans (congrArg some (by kernel_rfl))
 f21 := ⟨Tryz.f202.name, by decide, Tryz.func202.trans (congrArg some (by kernel_rfl))⟩
 f22 := ⟨Tryz.f203.name, by decide, Tryz.func203.trans (congrArg some (by kernel_rfl))⟩
 f23 := ⟨Tryz.f204.name, by decide, Tryz.func204.trans (congrArg some (by kernel_rfl))⟩
 f24 := ⟨Tryz.f205.name, by decide, Tryz.func205.trans (congrArg some (by kernel_rfl))⟩
 f25 := ⟨Tryz.f206.name, by decide, Tryz.func206.trans (congrArg some (by kernel_rfl))⟩
 f26 := ⟨Tryz.f207.name, by decide, Tryz.func207.trans (congrArg some (by kernel_rfl))⟩
 f27 := ⟨Tryz.f208.name, by decide, Tryz.func208.trans (congrArg some (by kernel_rfl))⟩
 f28 := ⟨Tryz.f209.name, by decide, Tryz.func209.trans (congrArg some (by kernel_rfl))⟩
 f29 := ⟨Tryz.f210.name, by decide, Tryz.func210.trans (congrArg some (by kernel_rfl))⟩
 f31 := Tryz.func229.trans (congrArg some (by kernel_rfl))
 f32 := Tryz.func230.trans (congrArg some (by kernel_rfl))
 f36 := ⟨Tryz.f228.name, by decide, Tryz.func228.trans (congrArg some (by kernel_rfl))⟩
 f37 := ⟨Tryz.f231.name, by decide, Tryz.func231.trans (congrArg some (by kernel_rfl))⟩
 f38 := ⟨Tryz.f232.name, by decide, Tryz.func232.trans (congrArg some (by kernel_rfl))⟩
 f39 := ⟨Tryz.f233.name, by decide, Tryz.func233.trans (congrArg some (by kernel_rfl))⟩
 f41 := ⟨Tryz.f248.name, by decide, Tryz.func248.trans (congrArg some (by kernel_rfl))⟩
 t0 := Tryz.underlying0
 a0 := Tryz.isAgg0
 z0 := Tryz.sizeOf0
 v0 := Tryz.zeroValue0
 t3 := Tryz.underlying3
 a3 := Tryz.isAgg3
 z3 := Tryz.sizeOf3
 v3 := Tryz.zeroValue3
 t4 := Tryz.underlying4
 a4 := Tryz.isAgg4
 z4 := Tryz.sizeOf4
 v4 := Tryz.zeroValue4
 t5 := Tryz.underlying5
 a5 := Tryz.isAgg5
 z5 := Tryz.sizeOf5
 v5 := Tryz.zeroValue5
 t9 := Tryz.underlying9
 a9 := Tryz.isAgg9
 z9 := Tryz.sizeOf9
 v9 := Tryz.zeroValue9
 t26 := Tryz.underlying59
 a26 := Tryz.isAgg59
 z26 := Tryz.sizeOf59
 v26 := Tryz.zeroValue59
 t27 := Tryz.underlying59
 a27 := Tryz.isAgg59
 z27 := Tryz.sizeOf59
 v27 := Tryz.zeroValue59
 t29 := Tryz.underlying9
 a29 := Tryz.isAgg9
 z29 := Tryz.sizeOf9
 v29 := Tryz.zeroValue9
 t32 := Tryz.underlying155
 a32 := Tryz.isAgg155
 z32 := Tryz.sizeOf155
 v32 := Tryz.zeroValue155
 t35 := Tryz.underlying261
 a35 := Tryz.isAgg261
 z35 := Tryz.sizeOf261
 v35 := Tryz.zeroValue261
 t36 := Tryz.underlying262
 a36 := Tryz.isAgg262
 z36 := Tryz.sizeOf262
 v36 := Tryz.zeroValue262
 t41 := Tryz.underlying103
 a41 := Tryz.isAgg103
 z41 := Tryz.sizeOf103
 v41 := Tryz.zeroValue103
 t44 := Tryz.underlying211
 a44 := Tryz.isAgg211
 z44 := Tryz.sizeOf211
 v44 := Tryz.zeroValue211
 t46 := Tryz.underlying210
 a46 := Tryz.isAgg210
 z46 := Tryz.sizeOf210
 v46 := Tryz.zeroValue210
 t53 := Tryz.underlying288
 a53 := Tryz.isAgg288
 z53 := Tryz.sizeOf288
 v53 := Tryz.zeroValue288
 t57 := Tryz.underlying292
 a57 := Tryz.isAgg292
 z57 := Tryz.sizeOf292
 v57 := Tryz.zeroValue292
 t63 := Tryz.underlying305
 a63 := Tryz.isAgg305
 z63 := Tryz.sizeOf305
 v63 := Tryz.zeroValue305
 t64 := Tryz.underlying306
 a64 := Tryz.isAgg306
 z64 := Tryz.sizeOf306
 v64 := Tryz.zeroValue306 }
open Go.RowKit Go.Maps Go.Sort in
theorem Tryz.sorts85 (m : Nat) : AnyZ.SortsIn Tryz.prog Tryz.sorted85_ren Fence.wide m :=
 ⟨fun blk off cap ss W hH hblk hsz => callsIn_wide.2 (AnyM.slices_Sort_string Tryz.sort124 blk off cap ss W hH hblk hsz),
  fun p cap W => callsIn_wide.2 (AnyM.slices_Sort_string_none Tryz.sort124 p cap W)⟩
open Go.RowKit Go.Maps Go.Sort in
theorem Tryz.maps_Keys_86 (mb : Option Nat) (W : World) : CallsIn Fence.wide 5 Tryz.prog 86 #[.map mb] W fun e w' => e = .returned (.func (.func 125) #[] #[.pointer (some ⟨W.heap.size, 0, none⟩)]) ∧ w' = W.alloc (.cells #[.map mb] 137) :=
 AnyZ.keys_in Tryz.keys86 Fence.wide 5 trivial rfl mb W
open Go.RowKit Go.Maps Go.Sort in
theorem Tryz.slices_Sorted_keys_85_86 {H : Type} (b nn : Nat) (D0 : DataW H) (R : Value → Option (DataW H × List MemPlace)) (w : World) (hown : w.ownsMap Tryz.prog 9 R b nn D0) (hmax : Maps.size D0 ≤ maxLen) (hbytes : Maps.size D0 * 16 ≤ 140737488355328) :
  CallsIn Fence.wide 5 Tryz.prog 85 #[.func (.func 125) #[] #[.pointer (some ⟨w.heap.size, 0, none⟩)]] (w.alloc (.cells #[.map (some b)] 137)) fun e w' => ∃ (v : Value) (ss : List (List UInt8)), e = .returned v ∧ ss.Perm (strKeys D0) ∧
   w'.ownsRow (w.alloc (.cells #[.map (some b)] 137)).heap.size 9 1 v ss.length ((ss.mergeSort (fun x y => decide (x ≤ y))).map encStr) ∧ (v = .slice none 0 0 ↔ ss = []) ∧ Below (w.alloc (.cells #[.map (some b)] 137)).heap.size (w.alloc (.cells #[.map (some b)] 137)) w' := by
 have hbl := hown.lt
 have hseq : SeqGives Fence.wide 2 Tryz.prog 125 #[.pointer (some ⟨w.heap.size, 0, none⟩)] encStr (fun ss => ss.Perm (strKeys D0)) (Maps.size D0) (w.alloc (.cells #[.map (some b)] 137)) :=
  AnyZ.keys_gives (ρ := Tryz.keys86_ren) { Tryz.keys86 with } Fence.wide _ trivial rfl (by omega) w.heap.size b nn D0 _ (by simp) (by simp) (by
   obtain ⟨es, clock, hb, Ft, hs, hD⟩ := hown
   exact ⟨es, clock, (Below.heap_alloc _ _ b hbl).trans hb, Ft, hs, hD⟩)
 exact AnyZ.sorted_in Tryz.sorted85 Fence.wide 5 trivial trivial trivial trivial rfl (by omega) (Tryz.sorts85 _) (enters_of Tryz.func124 (by kernel_rfl) rfl) 125 #[.pointer (some ⟨w.heap.size, 0, none⟩)] trivial (enters_of Tryz.func125 (by kernel_rfl) rfl) _ _ hmax hbytes _ hseq
end Go.Proofs
namespace Go.Proofs.YtgnblkmpoigejaaGreatDoor
set_option maxRecDepth 20000
open Go.RowKit Go.Maps
namespace Vy
def anyR {H : Type} : Value → Option (DataW H × List MemPlace) := fun _ => some (.lit (.bool true), [])
theorem keyS : Keyed Tryz.prog 9 := string_keyed Tryz.underlying9
theorem size_put {H : Type} {w : World} {b n : Nat} {D : DataW H} (h : w.ownsMap Tryz.prog 9 anyR b n D) : Maps.size D ≤ n := World.ownsMap.size_le h
def wt (l : List Fld) : Nat := (l.map (fun f => f.1.size + f.2.size + 2)).sum
structure LOk (w : World) (u : Value) (l : List Fld) : Prop where
 sl : SlR w e_ss u l
 sum : wt l ≤ 4398046511104
theorem LOk.below {w w' : World} {u : Value} {l : List Fld} (h : LOk w u l) (hb : Below w.heap.size w w') : LOk w' u l := ⟨h.sl.below hb, h.sum⟩
theorem wt_len (l : List Fld) : l.length ≤ wt l := sum_len _ (fun _ => by omega) l
theorem wt_sum (l : List Fld) : (l.map (fun f => f.2.size + 2)).sum ≤ wt l := by
 unfold wt
 induction l with
 | nil => simp
 | cons x m ih => simp only [List.map_cons, List.sum_cons]; omega
theorem LOk.len {w : World} {u : Value} {l : List Fld} (h : LOk w u l) : l.length * 32 ≤ 140737488355328 := by have := wt_len l; have := h.sum; omega
theorem LOk.lims {w : World} {u : Value} {l : List Fld} (h : LOk w u l) : Lims l := fun f hf => by have := sum_mem (fun d : Fld => d.1.size + d.2.size + 2) hf; have := h.sum; unfold wt at this; omega
theorem LOk.join {w : World} {u : Value} {l : List Fld} (h : LOk w u l) (n : ByteArray) : (joinL (selF l n) sep2).length ≤ 140737488351232 := Nat.le_trans (selF_join l n) (by have := wt_sum l; have := h.sum; omega)
theorem txt_wt (l : List Fld) (n : ByteArray) : (txt l n).size ≤ wt l := by unfold Vy.txt joinS; rw [mkS_size]; exact Nat.le_trans (selF_join l n) (wt_sum l)
theorem LOk.txt {w : World} {u : Value} {l : List Fld} (h : LOk w u l) (n : ByteArray) : (txt l n).size ≤ 140737488351232 := by have := txt_wt l n; have := h.sum; omega
theorem getL_any (u : Value) (l : List Fld) (n : ByteArray) (w : World) (h : LOk w u l) (hn : n.size ≤ 140737488351232) :
  Calls Tryz.prog 61 #[u, .string n] w fun e w' => e = .returned (.tuple #[.string (txt l n), .bool (isR l n)]) ∧ Below w.heap.size w w' := get_any u l n w h.sl h.len h.lims hn (h.join n)
theorem strKeys_spec {H : Type} {w : World} {b n : Nat} {D : DataW H} {R : Value → Option (DataW H × List MemPlace)} (h : w.ownsMap Tryz.prog 9 R b n D) : (strKeys D).Nodup ∧ (∀ x, x ∈ strKeys D ↔ has D (.string x) = true) ∧ (strKeys D).length = Maps.size D := by
 obtain ⟨es, hD, hpw, _⟩ := h.entries keyS
 obtain ⟨es', hD', hko⟩ := h.keysOf
 obtain rfl : es = es' := by rw [hD] at hD'; simpa using hD'
 subst hD
 have hk : ∀ p ∈ es, ∃ x, p.1 = .string x := fun p hp => by obtain ⟨v, hv⟩ := hko p hp; obtain ⟨x, _, hx, _⟩ := Maps.keyOf_str Tryz.underlying9 hv; exact ⟨x, hx⟩
 refine ⟨?_, ?_, ?_⟩
 ·show (es.map fun p => strOf p.1).Nodup
  refine List.pairwise_map.2 (hpw.imp_of_mem fun {p q} hp' hq' hne e => hne ?_)
  obtain ⟨a, ha⟩ := hk p hp'
  obtain ⟨b, hb⟩ := hk q hq'
  rw [ha, hb] at e ⊢
  exact congrArg _ e
 ·intro x
  rw [has_eq, List.any_eq_true]
  show x ∈ es.map (fun p => strOf p.1) ↔ _
  rw [List.mem_map]
  constructor
  ·rintro ⟨p, hp', rfl⟩
   obtain ⟨a, ha⟩ := hk p hp'
   exact ⟨p, hp', by rw [ha]; simp [Lit.sameKey, strOf]⟩
  ·rintro ⟨p, hp', hs⟩
   obtain ⟨a, ha⟩ := hk p hp'
   rw [ha] at hs
   exact ⟨p, hp', by rw [ha]; simpa [Lit.sameKey, strOf] using hs⟩
 ·show (es.map fun p => strOf p.1).length = _
  rw [List.length_map]; rfl
theorem sorted_lt {ss : List (List UInt8)} (hn : ss.Nodup) : (ss.mergeSort leB).Pairwise (· < ·) := by
 have tr : ∀ a b c : List UInt8, leB a b = true → leB b c = true → leB a c = true := fun a b c h1 h2 => by simp only [leB, decide_eq_true_eq] at *; exact List.le_trans h1 h2
 have tl : ∀ a b : List UInt8, (leB a b || leB b a) = true := fun a b => by simp only [leB, Bool.or_eq_true, decide_eq_true_eq]; exact List.le_total a b
 have h1 := List.pairwise_mergeSort tr tl ss
 have h2 : (ss.mergeSort leB).Nodup := (List.mergeSort_perm ss leB).nodup_iff.2 hn
 refine (h1.and h2).imp ?_
 rintro a b ⟨h3, h4⟩
 rcases Classical.em (a < b) with h | h
 ·exact h
 ·exact absurd (List.le_antisymm (of_decide_eq_true h3) (List.not_lt.1 h)) h4
def Sorted (xs : List ByteArray) : Prop := (xs.map sl).Pairwise (· < ·)
def NamesR (L : List ByteArray) (st : Bool) (c : Int) (e : Ending) (w' : World) : Prop := ∃ v xs, e = .returned (.tuple #[v, .bool st, .int .i64 c]) ∧ SlR w' es v xs ∧ Sorted xs ∧ xs.length ≤ 20 ∧ ∀ x, x ∈ xs ↔ x ∈ L
theorem namesR_nil (w' : World) (st : Bool) (c : Int) : NamesR [] st c (.returned (.tuple #[.slice none 0 0, .bool st, .int .i64 c])) w' :=
 ⟨_, [], rfl, SlR.nil w' es, List.Pairwise.nil, Nat.zero_le _, fun _ => Iff.rfl⟩
theorem sorted_row {w' : World} {base : Nat} {v : Value} {ss : List (List UInt8)} (h : w'.ownsRow base 9 1 v ss.length ((ss.mergeSort (fun x y => decide (x ≤ y))).map encStr)) :
  SlR w' es v ((ss.mergeSort leB).map mkS) := by
 have hl : ((ss.mergeSort leB).map mkS).length = ss.length := by rw [List.length_map, List.length_mergeSort]
 refine SlR.of_owns (base := base) (e := 9) (size := 1) ?_
 unfold Owns
 rw [hl, es_map, List.map_map]
 exact h
def Has (D : DataW Unit) (L : List ByteArray) : Prop := ∀ x : List UInt8, has D (.string x) = true ↔ mkS x ∈ L
theorem has_new {D : DataW Unit} {w : World} {b n : Nat} (hown : w.ownsMap Tryz.prog 9 anyR b n D) {L : List ByteArray} (h : Has D L) (y : List UInt8) (hy : y.length ≤ maxLen) (d : DataW Unit) : Has (D.put (.string y) d) (L ++ [mkS y]) := by
 obtain ⟨es, hD, _⟩ := hown.keysOf
 intro x
 by_cases hx : x = y
 ·subst hx
  have := has_put_same (D := D) (k := .string x) ⟨es, hD⟩ (by simp [WideAt.IsKeyLit]) d
  rw [this]; simp
 ·rw [has_put_other (by intro e; apply hx; injection e) d, h x]
  have : mkS x ≠ mkS y := fun e => hx (by rw [← sl_mkS x, ← sl_mkS y, e])
  simp [this]
set_option maxHeartbeats 3200000 in
theorem names_all (u : Value) (l : List Fld) (w : World) (hl : LOk w u l) :
  Calls Tryz.prog 43 #[u] w fun e w' => NamesR (nmF (txt l nVary)).1 (nmF (txt l nVary)).2.1 (nmF (txt l nVary)).2.2 e w' ∧ Below w.heap.size w w' := by
 have HG : Hid (Calls Tryz.prog 61 #[u, .string nVary] w fun e w' => e = .returned (.tuple #[.string (txt l nVary), .bool (isR l nVary)]) ∧ Below w.heap.size w w') := getL_any u l nVary w hl (by decide)
 have HT : (txt l nVary).size ≤ 140737488351232 := hl.txt nVary
 have HN : Hid (nmF (txt l nVary) = match Tok.splitL (sl (txt l nVary)) with | .error c => ([], false, c) | .ok ps => if (ps.map mkS).all Tok.isTok = true then (lowsOf (ps.map mkS), (ps.map mkS).any isStar, 0) else ([], false, 3)) := rfl
 clear hl
 generalize nmF (txt l nVary) = R at *
 generalize txt l nVary = T at *
 generalize isR l nVary = q at *
 obtain ⟨r0, r1, r2⟩ := R
 go_enter Tryz.func43, Tryz.ntmps43
 go_wp2_with fail
 refine HG.out.mono ?_
 rintro e w1 ⟨rfl, b1⟩
 go_wp2_with fail
 refine (split_any T _ HT).mono ?_
 rintro e w2 ⟨hans, b2⟩
 have B2 := belT b1 b2
 unfold SplitAns at hans
 have HN2 := HN.out
 clear HN HG
 cases hsp : Tok.splitL (sl T) with
 | error c =>
  rw [hsp] at hans HN2
  dsimp only at hans HN2
  subst hans
  have hc := split_code hsp
  have hne : (c != 0) = true := by simp; omega
  injection HN2 with h0 h1
  injection h1 with h1 h2
  subst h0 h1 h2
  clear hsp hc
  go_wp2_with fail
  go_ret3
  exact ⟨namesR_nil _ _ _, B2⟩
 | ok ps0 =>
  rw [hsp] at hans HN2
  dsimp only at hans HN2
  obtain ⟨v, rfl, ho⟩ := hans
  have h20 : (ps0.map mkS).length ≤ 20 ∧ ∀ p ∈ ps0.map mkS, p.size ≤ 1000 := by
   obtain ⟨k1, k2, -⟩ := Tok.split_short hsp
   refine ⟨by rw [List.length_map]; exact k2, fun p hp => ?_⟩
   obtain ⟨q, hq, rfl⟩ := List.mem_map.1 hp
   rw [mkS_size]; exact k1 q hq
  generalize ps0.map mkS = ps at *
  clear hsp
  obtain ⟨hl20, hp1k⟩ := h20
  have HSL := Lib.hid (SlR.of_owns ho)
  obtain ⟨A, c, rfl, -⟩ := (SlR.of_owns ho).form
  clear ho
  have HN3 := Lib.hid HN2
  clear HN2
  have hmm := @run_makeMap Tryz.prog
  go_wp2_with fail
  have H2 := Lib.hid (fun hn => HSL.out.texts hn)
  go_loopw [10, 29] (fun st i wr => ∃ k : Nat, k ≤ ps.length ∧ i = .int .i64 k ∧ st = .bool ((ps.take k).any isStar) ∧ (ps.take k).all Tok.isTok = true ∧ (∃ D : DataW Unit, wr.ownsMap Tryz.prog 9 anyR w2.heap.size k D ∧ Has D (lowsOf (ps.take k))) ∧ Below w2.heap.size w2 wr) (fun _ i _ => ps.length - (intOf i).toNat)
  case atStart => exact ⟨0, by omega, rfl, rfl, rfl, ⟨_, World.ownsMap_made _ _ _ _, fun x => ⟨(fun h => by cases h), (fun h => by simp [lowsOf] at h)⟩⟩, (Below.refl _ _).alloc (Nat.le_refl _) _⟩
  case round =>
   obtain ⟨k, hk, rfl, rfl, hall, ⟨Dm, hown, hhas⟩, hbel⟩ := hrel
   have HA := Lib.hid hall
   have HO := Lib.hid hown
   have HH := Lib.hid hhas
   clear hall hown hhas
   have Br := B2.trans (hbel.mono B2.size)
   by_cases hlt : k < ps.length
   ·obtain ⟨b, off, c', he, _, hbb, hcell⟩ := H2.out (by omega)
    obtain ⟨rfl, rfl⟩ : A = some ⟨b, off, none⟩ ∧ c = c' := by injection he with h1 h2 h3; exact ⟨h1, h3⟩
    have c0 := (hbel.cell (p := ⟨b, off + k, none⟩) hbb).trans (hcell k hlt)
    have hx := hp1k _ (List.getElem_mem hlt)
    have HT1 : Hid ((ps.take (k + 1)).any isStar = ((ps.take k).any isStar || isStar ps[k])) := by
     show _ = _; rw [List.take_add_one, List.getElem?_eq_getElem hlt, List.any_append]; simp
    have HT2 : Hid ((ps.take (k + 1)).all Tok.isTok = ((ps.take k).all Tok.isTok && Tok.isTok ps[k])) := by
     show _ = _; rw [List.take_add_one, List.getElem?_eq_getElem hlt, List.all_append]; simp
    have HT3 : Hid (Tok.isTok ps[k] = false → ps.all Tok.isTok = false) := fun h => by
     rw [List.all_eq_false]; exact ⟨ps[k], List.getElem_mem hlt, by rw [h]; simp⟩
    have HT4 : Hid (lowsOf (ps.take (k + 1)) = lowsOf (ps.take k) ++ (if isStar ps[k] = true then [] else [lowS ps[k]])) := by
     show _ = _
     unfold lowsOf
     rw [List.take_add_one, List.getElem?_eq_getElem hlt, List.filter_append, List.map_append]
     cases hi : isStar ps[k] <;> simp [hi]
    clear hcell he
    generalize ps[k] = x at *
    generalize hsk : (ps.take k).any isStar = sk at *
    have HTK := Lib.hid (fun w => isToken_any x w (by omega))
    go_wp2_with fail
    refine (HTK.out _).mono ?_
    rintro e w' ⟨rfl, rfl⟩
    cases hq : Tok.isTok x
    ·have hr : (r0, r1, r2) = ([], false, 3) := by rw [HN3.out, HT3.out hq]; simp
     injection hr with h0 h1
     injection h1 with h1 h2
     subst h0 h1 h2
     clear hq
     go_wp2_with fail
     go_ret3
     exact ⟨namesR_nil _ _ _, Br⟩
    ·have HQ2 : Hid ((ps.take (k + 1)).all Tok.isTok = true) := by show _ = _; rw [HT2.out, HA.out, hq]; rfl
     clear hq HT2 HT3
     cases hst : (x.toList == [42])
     ·have HS : Hid ((ps.take (k + 1)).any isStar = sk) := by show _ = _; rw [HT1.out]; unfold isStar; rw [hst]; simp
      have HL : Hid (lowsOf (ps.take (k + 1)) = lowsOf (ps.take k) ++ [lowS x]) := by show _ = _; rw [HT4.out]; unfold isStar; rw [hst]; simp
      go_wp2_with fail
      refine (lower_any x _ (by omega)).mono ?_
      rintro e w3 ⟨rfl, b3⟩
      have hB3 := belT hbel b3
      have HO3 := Lib.hid (HO.out.kept (gr_of (row := none) b3) (by simp))
      have hsz : (mkS (Tok.low (sl x))).size ≤ maxLen := by rw [mkS_size, Tok.low_len, sl_len]; simp only [maxLen]; omega
      have hkey := Go.WideMaps.keyOf_string_mk (k := 9) Tryz.underlying9 hsz
      have HHN := Lib.hid (fun d => has_new HO3.out HH.out (Tok.low (sl x)) (by rw [← mkS_size]; exact hsz) d)
      clear hst
      go_wp2_with (at_mapUpdate; go_must (refine wpList_mapUpdate_own _ rfl _ _ _ 137 rfl 9 3 keyS Tryz.underlying137 (anyR (H := Unit)) w2.heap.size k _ rfl HO3.out (by unfold maxLen; omega) _ _ _ rfl rfl hkey _ [] rfl ?_); intro w4 hown4 hgrow4)
      go_roundw
      case rel => exact ⟨k + 1, by omega, by go_num, by rw [HS.out], HQ2.out, ⟨_, hown4, by rw [HL.out]; exact HHN.out _⟩, hB3.grown hgrow4 hB3.size (fun j hj => by cases hj; exact Nat.le_refl _)⟩
      case measure => simp [intOf]; omega
     ·have HS : Hid ((ps.take (k + 1)).any isStar = true) := by show _ = _; rw [HT1.out]; unfold isStar; rw [hst]; simp
      have HL : Hid (lowsOf (ps.take (k + 1)) = lowsOf (ps.take k)) := by show _ = _; rw [HT4.out]; unfold isStar; rw [hst]; simp
      go_wp2_with fail
      go_roundw
      case rel => exact ⟨k + 1, by omega, by go_num, by rw [HS.out], HQ2.out, ⟨_, HO.out.mono (Nat.le_succ k), by rw [HL.out]; exact HH.out⟩, hbel⟩
      case measure => simp [intOf]; omega
   ·obtain rfl : k = ps.length := by omega
    have hE : ps.take ps.length = ps := List.take_of_length_le (Nat.le_refl _)
    have hr : (r0, r1, r2) = (lowsOf ps, ps.any isStar, 0) := by
     have := HA.out
     rw [hE] at this
     rw [HN3.out, if_pos this]
    injection hr with h0 h1
    injection h1 with h1 h2
    subst h0 h1 h2
    have HHE : Hid (Has Dm (lowsOf ps)) := by have := HH.out; rw [hE] at this; exact this
    rw [hE]
    have hsz := size_put HO.out
    have HKS := Lib.hid (strKeys_spec HO.out)
    go_wp2_with fail
    refine (callsIn_wide.1 (Tryz.maps_Keys_86 _ _)).mono ?_
    rintro e w3 ⟨rfl, rfl⟩
    go_wp2_with fail
    refine (callsIn_wide.1 (Tryz.slices_Sorted_keys_85_86 w2.heap.size _ Dm _ _ HO.out (by simp only [maxLen]; omega) (by omega))).mono ?_
    rintro e w4 ⟨vs, ss, rfl, hperm, hrow, -, b4⟩
    have B4 := (Br.alloc Br.size (.cells #[.map (some w2.heap.size)] 137)).trans (b4.mono (by have := Br.size; simp; omega))
    have HSR := Lib.hid (sorted_row hrow)
    have HMem : Hid (Sorted ((ss.mergeSort leB).map mkS) ∧ ((ss.mergeSort leB).map mkS).length ≤ 20 ∧ ∀ x, x ∈ (ss.mergeSort leB).map mkS ↔ x ∈ lowsOf ps) := by
     obtain ⟨n1, n2, n3⟩ := HKS.out
     refine ⟨?_, by rw [List.length_map, List.length_mergeSort, hperm.length_eq, n3]; omega, fun x => ?_⟩
     ·unfold Sorted
      have : ((ss.mergeSort leB).map mkS).map sl = ss.mergeSort leB := by
       rw [List.map_map]
       conv => rhs; rw [← List.map_id (ss.mergeSort leB)]
       exact List.map_congr_left (fun a _ => sl_mkS a)
      rw [this]
      exact sorted_lt (hperm.nodup_iff.2 n1)
     ·rw [List.mem_map]
      constructor
      ·rintro ⟨y, hy, rfl⟩
       exact (HHE.out y).1 ((n2 y).1 (hperm.mem_iff.1 ((List.mergeSort_perm ss leB).mem_iff.1 hy)))
      ·intro hx
       refine ⟨sl x, (List.mergeSort_perm ss leB).mem_iff.2 (hperm.mem_iff.2 ((n2 _).2 ((HHE.out _).2 (by rw [mkS_sl]; exact hx)))), mkS_sl x⟩
    clear hperm hrow
    generalize (ss.mergeSort leB).map mkS = xs at HSR HMem
    obtain ⟨A4, c4, rfl, -⟩ := HSR.out.form
    go_wp2_with fail
    go_ret3
    exact ⟨⟨_, _, rfl, HSR.out, HMem.out.1, HMem.out.2.1, HMem.out.2.2⟩, B4⟩
end Vy
end Go.Proofs.YtgnblkmpoigejaaGreatDoor
namespace Go.Proofs.YtgnblkmpoigejaaGreatDoor
set_option maxRecDepth 20000
open Go.RowKit
namespace Vy
theorem any_same {xs L : List ByteArray} (h : ∀ x, x ∈ xs ↔ x ∈ L) (p : ByteArray → Bool) : xs.any p = L.any p := by
 rw [Bool.eq_iff_iff, List.any_eq_true, List.any_eq_true]
 constructor
 ·rintro ⟨x, hx, hp⟩; exact ⟨x, (h x).1 hx, hp⟩
 ·rintro ⟨x, hx, hp⟩; exact ⟨x, (h x).2 hx, hp⟩
set_option maxHeartbeats 3200000 in
theorem match_any (v0 v1 v2 : Value) (l a b : List Fld) (w : World) (h0 : LOk w v0 l) (h1 : LOk w v1 a) (h2 : LOk w v2 b) :
  Calls Tryz.prog 17 #[v0, v1, v2] w fun e w' => e = .returned (.tuple #[.bool (matF (txt l nVary) a b).1, .int .i64 (matF (txt l nVary) a b).2]) ∧ Below w.heap.size w w' := by
 have HN := Lib.hid (names_all v0 l w h0)
 have hM : Hid (matF (txt l nVary) a b = if (nmF (txt l nVary)).2.2 = 0 then (!((nmF (txt l nVary)).2.1 || (nmF (txt l nVary)).1.any (diff a b)), 0) else (false, (nmF (txt l nVary)).2.2)) := rfl
 have HS := Lib.hid (nmF_small (txt l nVary))
 have HA := Lib.hid (fun n w' (hb : Below w.heap.size w w') (hn : n.size ≤ 1000) => getL_any v1 a n w' (h1.below hb) (by omega))
 have HB := Lib.hid (fun n w' (hb : Below w.heap.size w w') (hn : n.size ≤ 1000) => getL_any v2 b n w' (h2.below hb) (by omega))
 have hcode := nmF_code (txt l nVary)
 clear h0 h1 h2
 generalize matF (txt l nVary) a b = M at *
 generalize nmF (txt l nVary) = R at *
 obtain ⟨L, st, c⟩ := R
 obtain ⟨m1, m2⟩ := M
 dsimp only at *
 go_enter Tryz.func17, Tryz.ntmps17
 go_wp2_with fail
 refine HN.out.mono ?_
 rintro e w1 ⟨⟨v, xs, rfl, hsl, -, hlen, hmem⟩, b1⟩
 have HSl := Lib.hid hsl
 have HX : Hid (∀ p, xs.any p = L.any p) := fun p => any_same hmem p
 have HZ : Hid (∀ x ∈ xs, x.size ≤ 1000) := fun x hx => HS.out.2 x ((hmem x).1 hx)
 obtain ⟨A, cp, rfl, -⟩ := hsl.form
 clear hsl hmem HN
 by_cases hc : c = 0
 ·subst hc
  have hM2 : Hid (m1 = !(st || xs.any (diff a b)) ∧ m2 = 0) := by
   have := hM.out
   rw [if_pos rfl, ← HX.out] at this
   injection this with e1 e2
   exact ⟨e1, e2⟩
  clear hM hcode HX HS
  go_wp2_with fail
  have H2 := Lib.hid (fun hn => HSl.out.texts hn)
  go_loopw [9, 28] (fun s i wr => ∃ k : Nat, k ≤ xs.length ∧ i = .int .i64 k ∧ s = .bool (st || (xs.take k).any (diff a b)) ∧ Below w1.heap.size w1 wr) (fun _ i _ => xs.length - (intOf i).toNat)
  case atStart => exact ⟨0, by omega, rfl, by simp, Below.refl _ _⟩
  case round =>
   obtain ⟨k, hk, rfl, rfl, hbel⟩ := hrel
   have Br := belT b1 hbel
   by_cases hlt : k < xs.length
   ·obtain ⟨bb, off, c', he, _, hbb, hcell⟩ := H2.out (by omega)
    obtain ⟨rfl, rfl⟩ : A = some ⟨bb, off, none⟩ ∧ cp = c' := by injection he with h1 h2 h3; exact ⟨h1, h3⟩
    have c0 := (hbel.cell (p := ⟨bb, off + k, none⟩) hbb).trans (hcell k hlt)
    have hx := HZ.out _ (List.getElem_mem hlt)
    have HT : Hid ((st || (xs.take (k + 1)).any (diff a b)) = ((st || (xs.take k).any (diff a b)) || diff a b xs[k])) := by
     show _ = _; rw [List.take_add_one, List.getElem?_eq_getElem hlt, List.any_append]; simp [Bool.or_assoc]
    clear hcell he
    generalize xs[k] = x at *
    generalize hsk : (st || (xs.take k).any (diff a b)) = sk at *
    have HD : Hid (diff a b x = (decide (isR a x ≠ isR b x) || !((txt a x).toList == (txt b x).toList))) := by
     show _ = _; unfold diff; rw [toList_inj]; congr 1; simp
    have HA2 := Lib.hid (fun w' hb => HA.out x w' hb hx)
    have HB2 := Lib.hid (fun w' hb => HB.out x w' hb hx)
    generalize diff a b x = D at *
    generalize isR a x = p1 at *
    generalize isR b x = p2 at *
    generalize txt a x = t1 at *
    generalize txt b x = t2 at *
    generalize hcmp : (t1.toList == t2.toList) = z at *
    go_wp2_with fail
    refine (HA2.out _ Br).mono ?_
    rintro e w2 ⟨rfl, b2⟩
    have Br2 := belT Br b2
    go_wp2_with fail
    refine (HB2.out _ Br2).mono ?_
    rintro e w3 ⟨rfl, b3⟩
    have hB3 := belT (belT hbel b2) b3
    clear HA2 HB2 hsk
    cases sk
    ·cases p1 <;> cases p2 <;> cases z
     all_goals
      go_wp2_with fail
      go_roundw
      case rel => exact ⟨k + 1, by omega, by go_num, by rw [HT.out, HD.out]; rfl, hB3⟩
      case measure => simp [intOf]; omega
    ·go_wp2_with fail
     go_roundw
     case rel => exact ⟨k + 1, by omega, by go_num, by rw [HT.out]; rfl, hB3⟩
     case measure => simp [intOf]; omega
   ·obtain rfl : k = xs.length := by omega
    have hE : xs.take xs.length = xs := List.take_of_length_le (Nat.le_refl _)
    rw [hE]
    obtain ⟨hm1, rfl⟩ := hM2.out
    clear hM2
    generalize (st || xs.any (diff a b)) = q at *
    cases q
    ·obtain rfl : m1 = true := hm1
     go_wp2_with fail
     go_ret2
     exact ⟨rfl, Br⟩
    ·obtain rfl : m1 = false := hm1
     go_wp2_with fail
     go_ret2
     exact ⟨rfl, Br⟩
 ·have hM2 : Hid (m1 = false ∧ m2 = c) := by
   have := hM.out
   rw [if_neg hc] at this
   injection this with e1 e2
   exact ⟨e1, e2⟩
  obtain ⟨rfl, rfl⟩ := hM2.out
  have hne : (m2 != 0) = true := by simpa using hc
  go_wp2_with fail
  go_ret2
  exact ⟨rfl, b1⟩
end Vy
set_option maxRecDepth 20000
theorem dirInfo : ElemInfo Tryz.prog 151 (.agg #[.string ByteArray.empty, .bool false, .string ByteArray.empty]) 3 40 := by unfold ElemInfo; kernel_rfl
theorem sbs_one (l : List Dr) : ∀ u ∈ l.flatMap e_sbs, u.oneCell' = true := by
 intro u hu
 obtain ⟨d, _, hd⟩ := List.mem_flatMap.1 hu
 simp only [e_sbs, List.mem_cons, List.not_mem_nil, or_false] at hd
 rcases hd with rfl | rfl | rfl <;> rfl
def ParseAns (T : TypeId) (base : Nat) (s : ByteArray) (e : Ending) (w' : World) : Prop :=
 (∃ (ps : List (List UInt8)) (ds : List Dr) (v : Value), Tok.splitL (sl s) = .ok ps ∧ (ps.map mkS).map dirD = ds.map some ∧ e = .returned (.tuple #[v, .int .i64 0]) ∧ Owns w' base T 3 e_sbs v ds) ∨
 (∃ c : Int, 1 ≤ c ∧ c ≤ 3 ∧ e = .returned (.tuple #[.slice none 0 0, .int .i64 c]) ∧ (∀ (ps : List (List UInt8)) (ds : List Dr), Tok.splitL (sl s) = .ok ps → (ps.map mkS).map dirD = ds.map some → False) ∧ ∀ c', Tok.splitL (sl s) = .error c' → c' = c)
theorem split_code {l : List UInt8} {c : Int} (h : Tok.splitL l = .error c) : 2 ≤ c ∧ c ≤ 3 := by
 unfold Tok.splitL at h
 split at h
 ·injection h with h; omega
 ·split at h
  ·injection h with h; omega
  ·split at h
   ·injection h with h; omega
   ·cases h
set_option maxHeartbeats 1600000 in
theorem parse_any (s : ByteArray) (w : World) (hs : s.size ≤ 140737488351232) :
  Calls Tryz.prog 82 #[.string s] w fun e w' => ParseAns 151 w.heap.size s e w' ∧ Below w.heap.size w w' := by
 have HS := Lib.hid (split_any s)
 unfold ParseAns
 go_enter Tryz.func82, Tryz.ntmps82
 go_wp2_with fail
 refine (HS.out _ hs).mono ?_
 rintro e w1 ⟨hans, hb1⟩
 unfold SplitAns at hans
 cases hsp : Tok.splitL (sl s) with
 | error c =>
  rw [hsp] at hans
  dsimp only at hans
  subst hans
  have hc := split_code hsp
  have hne : ((c : Int) != 0) = true := by simp; omega
  go_wp2_with fail
  go_ret2
  exact ⟨.inr ⟨c, by omega, by omega, rfl, (fun ps ds h _ => by rw [hsp] at h; cases h), fun c' h => by rw [hsp] at h; injection h with h; exact h.symm⟩, hb1⟩
 | ok ps =>
  rw [hsp] at hans
  dsimp only at hans
  obtain ⟨v, rfl, hown⟩ := hans
  obtain ⟨hps1, hps2, -⟩ := Tok.split_short hsp
  have hr := SlR.of_owns hown
  have hsz : ∀ t ∈ ps.map mkS, t.size ≤ 1000 := by
   intro t ht
   obtain ⟨p, hp, rfl⟩ := List.mem_map.1 ht
   rw [mkS_size]; exact hps1 p hp
  have hl : (ps.map mkS).length ≤ 20 := by rw [List.length_map]; exact hps2
  have HPS : Hid (∀ (ds : List Dr) (P : Prop), ((ps.map mkS).map dirD = ds.map some → P) → ∀ (qs : List (List UInt8)), Tok.splitL (sl s) = .ok qs → (qs.map mkS).map dirD = ds.map some → P) := by
   intro ds P h qs hq hd
   rw [hsp] at hq
   injection hq with hq; subst hq; exact h hd
  have HEX : Hid (∀ ds : List Dr, (ps.map mkS).map dirD = ds.map some → ∃ qs : List (List UInt8), Tok.splitL (sl s) = .ok qs ∧ (qs.map mkS).map dirD = ds.map some) := fun ds h => ⟨ps, hsp, h⟩
  have HNE : Hid (∀ c', Tok.splitL (sl s) = .error c' → False) := by intro c' h; rw [hsp] at h; cases h
  generalize ps.map mkS = xs at *
  clear hown hsp hps1 hps2
  have HX := Lib.hid (fun (hn : 0 < xs.length) => hr.texts hn)
  obtain ⟨A, c, rfl, hcap, -⟩ := hr
  go_wp2_with fail
  go_loopw [6, 21] (fun o i wr => ∃ (k : Nat) (ds : List Dr), k ≤ xs.length ∧ i = .int .i64 k ∧ (xs.take k).map dirD = ds.map some ∧ Owns wr w1.heap.size 151 3 e_sbs o ds ∧ Below w1.heap.size w1 wr) (fun _ i _ => xs.length - (intOf i).toNat)
  case atStart => exact ⟨0, [], by omega, rfl, rfl, Owns.nil _ _ _ _ _, Below.refl _ _⟩
  case round =>
   obtain ⟨k, ds, hk, rfl, hds, hown, hbel⟩ := hrel
   have hdl : ds.length = k := by have := congrArg List.length hds; simp at this; omega
   have HDS := Lib.hid hds
   clear hds
   have HO := Lib.hid hown
   obtain ⟨A2, c2, hv⟩ := hown.slice
   subst hv
   clear hown
   by_cases hlt : k < xs.length
   ·obtain ⟨b, off, c', he, _, hbb, hcell⟩ := HX.out (by omega)
    obtain ⟨rfl, rfl⟩ : A = some ⟨b, off, none⟩ ∧ c = c' := by injection he with h1 h2 h3; exact ⟨h1, h3⟩
    have c0 := (hbel.cell (p := ⟨b, off + k, none⟩) hbb).trans (hcell k hlt)
    have hT : Hid ((xs.take (k + 1)).map dirD = ds.map some ++ [dirD xs[k]]) := by show _ = _; rw [List.take_add_one, List.getElem?_eq_getElem hlt, List.map_append, HDS.out]; rfl
    have hN : Hid (dirD xs[k] = none → ∀ zs : List Dr, xs.map dirD = zs.map some → False) := by
     intro h zs hx
     have h1 := congrArg (fun z => z[k]?) hx
     simp only [List.getElem?_map, List.getElem?_eq_getElem hlt, Option.map_some, h] at h1
     cases hxk : zs[k]? <;> rw [hxk] at h1 <;> simp at h1
    have hzz := hsz xs[k] (List.getElem_mem hlt)
    clear hcell he
    generalize xs[k] = p at *
    have hA := Lib.hid (fun w => directive_any p w hzz)
    clear hzz
    subst hdl
    go_wp2_with fail
    refine (hA.out _).mono ?_
    rintro e w2 ⟨ha, b2⟩
    have hb12 : Below w1.heap.size w1 w2 := hbel.trans (b2.mono hbel.size)
    have HO2 := Lib.hid (HO.out.below b2)
    clear b2
    rcases ha with ⟨d, h1, rfl⟩ | ⟨h1, d, rfl⟩
    ·have HS2 : Hid ((xs.take (ds.length + 1)).map dirD = (ds ++ [d]).map some) := by show _ = _; rw [hT.out, h1]; simp
     clear h1
     obtain ⟨n, hh, a⟩ := d
     rw [show vDr (n, hh, a) = .agg #[.string n, .bool hh, .string a] from rfl]
     have HNC : ∀ j u, [Value.string n, .bool hh, .string a][j]? = some u → ((w2.alloc (.cells #[.string n, .bool hh, .string a] 151)).alloc (.cells #[.string n, .bool hh, .string a] 151)).cell? ((⟨w2.heap.size + 1, 0, none⟩ : Addr).add j) = some u := by
      have := new_cells (w2.alloc (.cells #[.string n, .bool hh, .string a] 151)) [.string n, .bool hh, .string a] 151
      rwa [show (w2.alloc (.cells #[.string n, .bool hh, .string a] 151)).heap.size = w2.heap.size + 1 from by simp] at this
     have hb2 : Below w1.heap.size w1 (w2.alloc (.cells #[.string n, .bool hh, .string a] 151)) := hb12.alloc hb12.size _
     go_wp2_with (at_builtin; go_must (refine wpList_append_owns rfl (.tmp 32) (.tmp 34) _ rfl w1.heap.size 151 (.agg #[.string ByteArray.empty, .bool false, .string ByteArray.empty]) 3 40 e_sbs Tryz.underlying90 dirInfo rfl (by decide) _ ds rfl ((HO2.out.alloc _).alloc _) ⟨w2.heap.size + 1, 0, none⟩ 1 1 [(n, hh, a)] rfl rfl rfl HNC (sbs_one _) (by simp only [maxLen]; omega) (by omega) (bel_size hb2 (Nat.le_refl _) _) ?_); intro v3 w3 hown3 hg3)
     go_roundw
     case rel => exact ⟨ds.length + 1, ds ++ [(n, hh, a)], by omega, by go_num, HS2.out, hown3, (hb2.alloc hb2.size _).grown hg3 (bel_size hb2 (Nat.le_refl _) _) (fun k hk => (HO2.out.lt k hk).1)⟩
     case measure => simp [intOf]; omega
    ·have HF := Lib.hid (hN.out h1)
     clear h1
     obtain ⟨n, hh, a⟩ := d
     rw [show vDr (n, hh, a) = .agg #[.string n, .bool hh, .string a] from rfl]
     go_wp2_with fail
     go_ret2
     exact ⟨.inr ⟨3, by omega, by omega, rfl, fun qs zs hq hz => HPS.out zs False (HF.out zs) qs hq hz, fun c' h => (HNE.out c' h).elim⟩, hb1.trans ((hb12.alloc hb12.size _).mono hb1.size)⟩
   ·subst hdl
    have hE : xs.take ds.length = xs := List.take_of_length_le (by omega)
    have hTS : Hid (xs.map dirD = ds.map some) := by have := HDS.out; rw [hE] at this; exact this
    clear hE
    go_wp2_with fail
    go_ret2
    obtain ⟨qs, h1, h2⟩ := HEX.out ds hTS.out
    exact ⟨.inl ⟨qs, ds, _, h1, h2, rfl, HO.out.mono hb1.size⟩, hb1.trans (hbel.mono hb1.size)⟩
end Go.Proofs.YtgnblkmpoigejaaGreatDoor
