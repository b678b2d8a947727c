/- control's directive: what it reads. -/
import Derived.Test.YtiijgbgknolmcaaDoorCtlB
namespace Go.Proofs.YtiijgbgknolmcaaDoor
set_option maxRecDepth 20000
open Go.RowKit
/-- What stands before the first c, and behind it. -/
def cutAt (c : UInt8) : List UInt8 → Option (List UInt8 × List UInt8)
  | [] => none
  | x :: l => if x = c then some ([], l) else (cutAt c l).map (fun p => (x :: p.1, p.2))
theorem cutAt_some {c : UInt8} : ∀ {l a b : List UInt8}, l = a ++ c :: b → c ∉ a → cutAt c l = some (a, b)
  | _, [], b, rfl, _ => by simp [cutAt]
  | _, x :: a, b, rfl, h => by
    have hx : x ≠ c := fun e => h (by simp [e])
    simp only [List.cons_append, cutAt, if_neg hx, cutAt_some (l := a ++ c :: b) rfl (fun e => h (by simp [e])), Option.map_some]
theorem cutAt_none {c : UInt8} : ∀ {l : List UInt8}, c ∉ l → cutAt c l = none
  | [], _ => rfl
  | x :: l, h => by
    have hx : x ≠ c := fun e => h (by simp [e])
    have hl : c ∉ l := fun e => h (List.mem_cons_of_mem _ e)
    simp only [cutAt, if_neg hx, cutAt_none hl, Option.map_none]
/-- What directive reads: none, where it is none. -/
def dirD (p : ByteArray) : Option Dr :=
  match cutAt 61 (sl p) with
  | some (a, b) => if Tok.isTok (mkS a) = true then (if Tok.isTok (mkS b) = true then some (lowT (mkS a), true, mkS b) else (Tok.unquoteL b).map (fun u => (lowT (mkS a), true, mkS u))) else none
  | none => if Tok.isTok p = true then some (lowT p, false, ByteArray.empty) else none
def DirAns (p : ByteArray) (e : Ending) : Prop :=
  (∃ d, dirD p = some d ∧ e = .returned (.tuple #[vDr d, .bool true])) ∨ (dirD p = none ∧ ∃ d : Dr, e = .returned (.tuple #[vDr d, .bool false]))
theorem escs_ge : ∀ l : List UInt8, l.length ≤ (Tok.escs l).length
  | [] => by simp [Tok.escs]
  | c :: l => by
    have ih := escs_ge l
    have : 1 ≤ (Tok.esc c).length := by unfold Tok.esc; split <;> simp
    simp only [Tok.escs, List.flatMap_cons, List.length_append, List.length_cons] at ih ⊢; omega
/-- A struct of three cells, stored whole; what is made behind it leaves it alone. -/
theorem three_set (w2 : World) (g : Nat) (h : g < w2.heap.size) {x0 x1 x2 : Value} (u0 u1 u2 : Value) (d0 : w2.cell? ⟨g, 0, none⟩ = some x0) (d1 : w2.cell? ⟨g, 1, none⟩ = some x1) (d2 : w2.cell? ⟨g, 2, none⟩ = some x2) (w3 : World)
    (hb : Below w2.heap.size (((w2.setCell ⟨g, 0, none⟩ u0).setCell ⟨g, 1, none⟩ u1).setCell ⟨g, 2, none⟩ u2) w3) :
    w3.cell? ⟨g, 0, none⟩ = some u0 ∧ w3.cell? ⟨g, 1, none⟩ = some u1 ∧ w3.cell? ⟨g, 2, none⟩ = some u2 := by
  refine ⟨(hb.cell h).trans ?_, (hb.cell h).trans ?_, (hb.cell h).trans ?_⟩ <;> simp [go_sem, d0, d1, d2]
set_option maxHeartbeats 3200000 in
theorem directive_any (p : ByteArray) (w : World) (hp : p.size ≤ 1000) :
    Calls Tryd.prog 54 #[.string p] w fun e w' => DirAns p e ∧ Below w.heap.size w w' := by
  have hC := Lib.hid (fun w => cut_one p 61 w (by omega))
  have hD : Hid (dirD p = match cutAt 61 (sl p) with
    | some (a, b) => if Tok.isTok (mkS a) = true then (if Tok.isTok (mkS b) = true then some (lowT (mkS a), true, mkS b) else (Tok.unquoteL b).map (fun u => (lowT (mkS a), true, mkS u))) else none
    | none => if Tok.isTok p = true then some (lowT p, false, ByteArray.empty) else none) := rfl
  unfold DirAns
  generalize dirD p = dd at *
  go_enter Tryd.func54, Tryd.ntmps54
  go_wp2_with fail
  refine (hC.out _).mono ?_
  rintro e w1 ⟨hans, b1⟩
  rcases hans with ⟨a, b, h1, h2, rfl⟩ | ⟨h1, rfl⟩
  · have hd := hD.out
    rw [cutAt_some h1 h2] at hd
    dsimp only at hd
    have hab : (mkS a).size ≤ 1000 ∧ (mkS b).size ≤ 1000 ∧ b.length ≤ 1000 := by
      have := congrArg List.length h1
      rw [sl_len, List.length_append, List.length_cons] at this
      rw [mkS_size, mkS_size]; omega
    obtain ⟨ha, hb, hbl⟩ := hab
    have HI := Lib.hid (fun w => isToken_any (mkS a) w (by omega))
    have HJ := Lib.hid (fun w => isToken_any (mkS b) w (by omega))
    have HU := Lib.hid (fun w => unquote_walk (mkS b) w (by omega))
    have HLo := Lib.hid (fun w => lower_any (mkS a) w (by omega))
    rw [show mkS (Tok.low (sl (mkS a))) = lowT (mkS a) from rfl] at HLo
    have HD := Lib.hid hd
    have HB : Hid (sl (mkS b) = b) := sl_mkS b
    clear hd h1 h2
    obtain ⟨A, hA⟩ : ∃ A, mkS a = A := ⟨_, rfl⟩
    obtain ⟨B, hB⟩ : ∃ B, mkS b = B := ⟨_, rfl⟩
    obtain ⟨n, hn⟩ : ∃ n, lowT A = n := ⟨_, rfl⟩
    rw [hA] at HI HLo HD ha ⊢
    rw [hB] at HJ HU HD HB hb ⊢
    rw [hn] at HLo HD
    clear hA hB hn
    have b01 : Below w.heap.size w w1 := ((Below.refl _ _).alloc (Nat.le_refl _) _).trans (b1.mono (by simp))
    have hz : w.heap.size < w1.heap.size := by have := b1.size; simp at this; omega
    have c0 : w1.cell? ⟨w.heap.size, 0, none⟩ = some (.string ByteArray.empty) := (b1.cell (by simp)).trans (by go_simp; rfl)
    have c1 : w1.cell? ⟨w.heap.size, 1, none⟩ = some (.bool false) := (b1.cell (by simp)).trans (by go_simp)
    have c2 : w1.cell? ⟨w.heap.size, 2, none⟩ = some (.string ByteArray.empty) := (b1.cell (by simp)).trans (by go_simp; rfl)
    have f0 : w1.frozen? ⟨w.heap.size, 0, none⟩ = false := (b1.frozen (by simp)).trans (by go_simp)
    have f1 : w1.frozen? ⟨w.heap.size, 1, none⟩ = false := (b1.frozen (by simp)).trans (by go_simp)
    have f2 : w1.frozen? ⟨w.heap.size, 2, none⟩ = false := (b1.frozen (by simp)).trans (by go_simp)
    clear b1
    go_wp2_with fail
    refine (HLo.out _).mono ?_
    rintro e w2 ⟨rfl, b2⟩
    have b02 := b01.trans (b2.mono b01.size)
    have hz2 := Nat.lt_of_lt_of_le hz b2.size
    have d0 := (b2.cell hz).trans c0
    have d1 := (b2.cell hz).trans c1
    have d2 := (b2.cell hz).trans c2
    have g0 := (b2.frozen hz).trans f0
    have g1 := (b2.frozen hz).trans f1
    have g2 := (b2.frozen hz).trans f2
    clear c0 c1 c2 f0 f1 f2 b2
    have HE : Hid (∀ (J : Bool) (o : Option Dr), dd = (if J = true then o else none) → ∀ d : Dr, (J = true → o = some d) → ((∃ d', dd = some d' ∧ Ending.returned (.tuple #[vDr d, .bool J]) = .returned (.tuple #[vDr d', .bool true])) ∨ (dd = none ∧ ∃ d' : Dr, Ending.returned (.tuple #[vDr d, .bool J]) = .returned (.tuple #[vDr d', .bool false])))) := by
      intro J o h d ho
      cases J
      · exact .inr ⟨h, d, rfl⟩
      · exact .inl ⟨d, by rw [h, ← ho rfl]; rfl, rfl⟩
    obtain ⟨J, hJA⟩ : ∃ J, Tok.isTok A = J := ⟨_, rfl⟩
    rw [hJA] at HI HD
    cases hJ : Tok.isTok B
    · rw [hJ] at HJ HD
      clear hJ
      go_wp2_with fail
      refine (HJ.out _).mono ?_
      rintro e w' ⟨rfl, rfl⟩
      go_wp2_with fail
      refine (HU.out _).mono ?_
      rintro e w3 ⟨hU, b3⟩
      have hz3 : w2.heap.size < w3.heap.size := by have := b3.size; simp at this; omega
      have e0 : w3.cell? ⟨w2.heap.size, 0, none⟩ = some (.string n) := (b3.cell (by simp)).trans (by go_simp)
      have e1 : w3.cell? ⟨w2.heap.size, 1, none⟩ = some (.bool true) := (b3.cell (by simp)).trans (by go_simp)
      have e2 : w3.cell? ⟨w2.heap.size, 2, none⟩ = some (.string B) := (b3.cell (by simp)).trans (by go_simp)
      have b23 : Below w2.heap.size w2 w3 := ((Below.refl _ _).alloc (Nat.le_refl _) _).trans (b3.mono (by simp))
      have b03 := b02.trans (b23.mono b02.size)
      have l0 := (b23.cell hz2).trans d0
      have l1 := (b23.cell hz2).trans d1
      have l2 := (b23.cell hz2).trans d2
      have m0 := (b23.frozen hz2).trans g0
      have m1 := (b23.frozen hz2).trans g1
      have m2 := (b23.frozen hz2).trans g2
      have q2 : w3.frozen? ⟨w2.heap.size, 2, none⟩ = false := (b3.frozen (by simp)).trans (by go_simp)
      have hz03 := Nat.lt_trans hz2 hz3
      clear d0 d1 d2 g0 g1 g2 b3
      unfold UnqEnd at hU
      rw [HB.out] at hU
      rcases hU with ⟨h1, rfl⟩ | ⟨u, h1, h2⟩
      · have HN : Hid (dd = none) := by
          have := HD.out
          rw [h1] at this
          show dd = none
          rw [this]; cases J <;> rfl
        clear h1
        go_wp2_with fail
        obtain ⟨k0, k1, k2⟩ := three_set w3 w.heap.size hz03 (.string n) (.bool true) (.string B) l0 l1 l2 _ (Below.refl _ _)
        refine bodyPost_ret (v := .tuple #[vDr (n, true, B), .bool false]) (by simp [results, Tryd.results54, go_sem, vDr, k0, k1, k2]) rfl ⟨.inr ⟨HN.out, _, rfl⟩, ?_⟩
        exact ((b03.setCell (p := ⟨w.heap.size, 0, none⟩) (Nat.le_refl _) _).setCell (p := ⟨w.heap.size, 1, none⟩) (Nat.le_refl _) _).setCell (p := ⟨w.heap.size, 2, none⟩) (Nat.le_refl _) _
      · have HN : Hid (dd = if J = true then some (n, true, mkS u) else none) := by
          have := HD.out
          rw [h1] at this
          exact this
        have hu : u.length ≤ 1000 := by have h4 := (Tok.unquote_some h1).1; have h5 := escs_ge u; simp [Tok.quoteL] at h4; omega
        clear h1
        rcases h2 with ⟨h3, _⟩ | ⟨_, rfl⟩
        · omega
        · obtain ⟨U, hU⟩ : ∃ U, mkS u = U := ⟨_, rfl⟩
          rw [hU] at HN ⊢
          clear hU
          go_wp2_with (go_region_with (go_at_call 72; refine (HI.out _).mono ?_; rintro e w' ⟨rfl, rfl⟩))
          all_goals
            have bb : Below w2.heap.size w3 (w3.setCell ⟨w2.heap.size, 2, none⟩ (.string U)) := (Below.refl _ _).setCell (p := ⟨w2.heap.size, 2, none⟩) (Nat.le_refl _) _
            obtain ⟨k0, k1, k2⟩ := three_set (w3.setCell ⟨w2.heap.size, 2, none⟩ (.string U)) w.heap.size (Nat.lt_of_lt_of_le hz03 bb.size) (.string n) (.bool true) (.string U) ((bb.cell hz2).trans l0) ((bb.cell hz2).trans l1) ((bb.cell hz2).trans l2) _ (Below.refl _ _).drew
            refine bodyPost_ret (v := .tuple #[vDr (n, true, U), .bool J]) (by simp [results, Tryd.results54, go_sem, vDr, k0, k1, k2]) rfl ⟨HE.out _ _ HN.out _ (fun _ => rfl), ?_⟩
            exact ((((b03.setCell (p := ⟨w2.heap.size, 2, none⟩) b02.size _).setCell (p := ⟨w.heap.size, 0, none⟩) (Nat.le_refl _) _).setCell (p := ⟨w.heap.size, 1, none⟩) (Nat.le_refl _) _).setCell (p := ⟨w.heap.size, 2, none⟩) (Nat.le_refl _) _).drew
    · rw [hJ] at HJ HD
      clear hJ
      go_wp2_with fail
      refine (HJ.out _).mono ?_
      rintro e w' ⟨rfl, rfl⟩
      go_wp2_with (go_region_with (go_at_call 72; refine (HI.out _).mono ?_; rintro e w' ⟨rfl, rfl⟩))
      all_goals
        obtain ⟨k0, k1, k2⟩ := three_set w2 w.heap.size hz2 (.string n) (.bool true) (.string B) d0 d1 d2 _ (((Below.refl _ _).alloc (by simp) (.cells #[.string n, .bool true, .string B] 79)).drew)
        refine bodyPost_ret (v := .tuple #[vDr (n, true, B), .bool J]) (by simp [results, Tryd.results54, go_sem, vDr, k0, k1, k2]) rfl ⟨HE.out _ _ HD.out _ (fun _ => rfl), ?_⟩
        exact ((((b02.setCell (p := ⟨w.heap.size, 0, none⟩) (Nat.le_refl _) _).setCell (p := ⟨w.heap.size, 1, none⟩) (Nat.le_refl _) _).setCell (p := ⟨w.heap.size, 2, none⟩) (Nat.le_refl _) _).alloc (by simp; omega) _).drew
  · have hd := hD.out
    rw [cutAt_none h1] at hd
    dsimp only at hd
    have HI := Lib.hid (fun w => isToken_any p w (by omega))
    have HLo := Lib.hid (fun w => lower_any p w (by omega))
    rw [show mkS (Tok.low (sl p)) = lowT p from rfl] at HLo
    have HD := Lib.hid hd
    clear hd h1
    obtain ⟨n, hn⟩ : ∃ n, lowT p = n := ⟨_, rfl⟩
    rw [hn] at HLo HD
    clear hn
    have b01 : Below w.heap.size w w1 := ((Below.refl _ _).alloc (Nat.le_refl _) _).trans (b1.mono (by simp))
    have hz : w.heap.size < w1.heap.size := by have := b1.size; simp at this; omega
    have c0 : w1.cell? ⟨w.heap.size, 0, none⟩ = some (.string ByteArray.empty) := (b1.cell (by simp)).trans (by go_simp; rfl)
    have c1 : w1.cell? ⟨w.heap.size, 1, none⟩ = some (.bool false) := (b1.cell (by simp)).trans (by go_simp)
    have c2 : w1.cell? ⟨w.heap.size, 2, none⟩ = some (.string ByteArray.empty) := (b1.cell (by simp)).trans (by go_simp; rfl)
    have f0 : w1.frozen? ⟨w.heap.size, 0, none⟩ = false := (b1.frozen (by simp)).trans (by go_simp)
    have f1 : w1.frozen? ⟨w.heap.size, 1, none⟩ = false := (b1.frozen (by simp)).trans (by go_simp)
    have f2 : w1.frozen? ⟨w.heap.size, 2, none⟩ = false := (b1.frozen (by simp)).trans (by go_simp)
    clear b1
    go_wp2_with fail
    refine (HLo.out _).mono ?_
    rintro e w2 ⟨rfl, b2⟩
    have b02 := b01.trans (b2.mono b01.size)
    have hz2 := Nat.lt_of_lt_of_le hz b2.size
    have d0 := (b2.cell hz).trans c0
    have d1 := (b2.cell hz).trans c1
    have d2 := (b2.cell hz).trans c2
    have g0 := (b2.frozen hz).trans f0
    have g1 := (b2.frozen hz).trans f1
    have g2 := (b2.frozen hz).trans f2
    clear c0 c1 c2 f0 f1 f2 b2
    have HE : Hid (∀ (J : Bool) (o : Option Dr), dd = (if J = true then o else none) → ∀ d : Dr, (J = true → o = some d) → ((∃ d', dd = some d' ∧ Ending.returned (.tuple #[vDr d, .bool J]) = .returned (.tuple #[vDr d', .bool true])) ∨ (dd = none ∧ ∃ d' : Dr, Ending.returned (.tuple #[vDr d, .bool J]) = .returned (.tuple #[vDr d', .bool false])))) := by
      intro J o h d ho
      cases J
      · exact .inr ⟨h, d, rfl⟩
      · exact .inl ⟨d, by rw [h, ← ho rfl]; rfl, rfl⟩
    obtain ⟨J, hJA⟩ : ∃ J, Tok.isTok p = J := ⟨_, rfl⟩
    rw [hJA] at HI HD
    go_wp2_with (go_region_with (go_at_call 72; refine (HI.out _).mono ?_; rintro e w' ⟨rfl, rfl⟩))
    all_goals
      obtain ⟨k0, k1, k2⟩ := three_set w2 w.heap.size hz2 (.string n) (.bool false) (.string ByteArray.empty) d0 d1 d2 _ (((Below.refl _ _).alloc (by simp) (.cells #[.string n, .bool false, .string ByteArray.empty] 79)).drew)
      refine bodyPost_ret (v := .tuple #[vDr (n, false, ByteArray.empty), .bool J]) (by simp [results, Tryd.results54, go_sem, vDr, k0, k1, k2]) rfl ⟨HE.out _ _ HD.out _ (fun _ => rfl), ?_⟩
      exact ((((b02.setCell (p := ⟨w.heap.size, 0, none⟩) (Nat.le_refl _) _).setCell (p := ⟨w.heap.size, 1, none⟩) (Nat.le_refl _) _).setCell (p := ⟨w.heap.size, 2, none⟩) (Nat.le_refl _) _).alloc (by simp; omega) _).drew
end Go.Proofs.YtiijgbgknolmcaaDoor
