/- span's isBoundary and Bundle. -/
import Derived.Test.YthhhlaoiampinaaDoorSpbP
import Derived.Test.YthhhlaoiampinaaDoorBuilder
import Derived.Test.YthhhlaoiampinaaDoorIsTok
namespace Go.Proofs.YthhhlaoiampinaaDoor
set_option maxRecDepth 20000
open Go.RowKit
namespace Spb
open Spc
def isBd (b : ByteArray) : Bool := Tok.isTok b && decide (b.size ≤ 30)
theorem isBoundary_any (b : ByteArray) (w : World) (hb : b.size ≤ 140737488351232) :
    Calls Tryd.prog 16 #[.string b] w fun e w' => e = .returned (.bool (isBd b)) ∧ w' = w := by
  have HT := Lib.hid (fun w' => isToken_any b w' (by omega))
  cases hq : Tok.isTok b
  · have HR : Hid (isBd b = false) := by show _ = _; unfold isBd; rw [hq]; rfl
    rw [hq] at HT
    clear hq
    go_enter Tryd.func16, Tryd.ntmps16
    go_wp2_with fail
    refine (HT.out _).mono ?_
    rintro e w' ⟨rfl, rfl⟩
    go_wp2_with fail
    go_ret
    exact ⟨by rw [HR.out]; rfl, rfl⟩
  · rw [hq] at HT
    cases hd : decide (b.size ≤ 30)
    · have HR : Hid (isBd b = false) := by show _ = _; unfold isBd; rw [hq, hd]; rfl
      have hd2 : decide ((b.size : Int) ≤ 30) = false := by rw [decide_eq_false_iff_not] at hd ⊢; omega
      clear hq
      go_enter Tryd.func16, Tryd.ntmps16
      go_wp2_with fail
      refine (HT.out _).mono ?_
      rintro e w' ⟨rfl, rfl⟩
      go_wp2_with fail
      go_ret
      exact ⟨by rw [HR.out]; rfl, rfl⟩
    · have HR : Hid (isBd b = true) := by show _ = _; unfold isBd; rw [hq, hd]; rfl
      have hd2 : decide ((b.size : Int) ≤ 30) = true := by rw [decide_eq_true_iff] at hd ⊢; omega
      clear hq
      go_enter Tryd.func16, Tryd.ntmps16
      go_wp2_with fail
      refine (HT.out _).mono ?_
      rintro e w' ⟨rfl, rfl⟩
      go_wp2_with fail
      go_ret
      exact ⟨by rw [HR.out]; rfl, rfl⟩
/-- What Bundle answers. -/
def BunA (bd body : ByteArray) (l : List (Int × Int)) (e : Ending) : Prop :=
  (isBd bd = true ∧ l ≠ [] ∧ l.length ≤ 20 ∧ okL (body.size : Int) l ∧ e = .returned (.tuple #[.string (mkS (bunL (sl bd) (sl body) (body.size : Int) l)), .int .i64 0])) ∨
  (¬ (isBd bd = true ∧ l ≠ [] ∧ l.length ≤ 20 ∧ okL (body.size : Int) l) ∧ ∃ k : Int, (k == 0) = false ∧ e = .returned (.tuple #[.string ByteArray.empty, .int .i64 k]))
theorem okL_take {n : Int} {l : List (Int × Int)} {k : Nat} (h : k < l.length) (h1 : okL n (l.take k)) (h2 : conB l[k].1 l[k].2 n = true) : okL n (l.take (k + 1)) := by
  intro d hd
  rw [List.take_add_one, List.getElem?_eq_getElem h] at hd
  rcases List.mem_append.1 hd with hd | hd
  · exact h1 d hd
  · simp at hd; subst hd; exact h2
set_option maxHeartbeats 4000000 in
theorem bundle_any (bd body : ByteArray) (v : Value) (l : List (Int × Int)) (w : World) (hbd : bd.size ≤ 140737488351232) (hbo : body.size ≤ 140737488351232) (h : SlR w e_ii v l) (hl : l.length ≤ 140737488351232) (hp : HasP10 w) :
    Calls Tryd.prog 6 #[.string bd, .string body, v] w fun e w' => BunA bd body l e ∧ Below w.heap.size w w' := by
  have HB := Lib.hid (fun w' => isBoundary_any bd w' hbd)
  have HP := Lib.hid (fun w' (hb : Below w.heap.size w w') => hp.below rfl hb)
  have HR := Lib.hid h
  obtain ⟨A, c, rfl, hc, -⟩ := h
  cases hq : isBd bd
  · rw [hq] at HB
    have HF : Hid (∀ e, (∃ k : Int, (k == 0) = false ∧ e = .returned (.tuple #[.string ByteArray.empty, .int .i64 k])) → BunA bd body l e) := fun e he => .inr ⟨by rw [hq]; simp, he⟩
    clear hq
    go_enter Tryd.func6, Tryd.ntmps6
    go_wp2_with fail
    refine (HB.out _).mono ?_
    rintro e w' ⟨rfl, rfl⟩
    go_wp2_with fail
    go_ret2
    exact ⟨HF.out _ ⟨3, rfl, rfl⟩, Below.refl _ _⟩
  · rw [hq] at HB
    by_cases h0 : l.length = 0
    · have HF : Hid (∀ e, (∃ k : Int, (k == 0) = false ∧ e = .returned (.tuple #[.string ByteArray.empty, .int .i64 k])) → BunA bd body l e) := fun e he => .inr ⟨fun hh => hh.2.1 (List.eq_nil_of_length_eq_zero h0), he⟩
      have hl0 : ((l.length : Int) == 0) = true := by rw [beq_iff_eq]; omega
      clear hq
      go_enter Tryd.func6, Tryd.ntmps6
      go_wp2_with fail
      refine (HB.out _).mono ?_
      rintro e w' ⟨rfl, rfl⟩
      go_wp2_with fail
      go_ret2
      exact ⟨HF.out _ ⟨1, rfl, rfl⟩, Below.refl _ _⟩
    · have hl0 : ((l.length : Int) == 0) = false := by rw [beq_eq_false_iff_ne]; omega
      by_cases h20 : l.length ≤ 20
      · have d20 : decide (20 < (l.length : Int)) = false := by rw [decide_eq_false_iff_not]; omega
        have hB30 : bd.size ≤ 30 := by
          unfold isBd at hq; rw [Bool.and_eq_true, decide_eq_true_iff] at hq; exact hq.2
        have HN : Hid (l ≠ []) := fun e => h0 (by rw [e]; rfl)
        have HQ := Lib.hid hq
        have hBw := bld_new w.heap.size w (Nat.le_refl _)
        have HBd : Hid ((sl bd).length ≤ 30) := by show _ ≤ _; rw [sl_len]; exact hB30
        have HBn : Hid ((body.size : Int) = ((sl body).length : Int)) := by show _ = _; rw [sl_len]
        obtain ⟨P1, hP1⟩ : ∃ P1, (⟨#[45, 45]⟩ : ByteArray) ++ bd = P1 := ⟨_, rfl⟩
        obtain ⟨P2, hP2⟩ : ∃ P2, P1 ++ (⟨#[13, 10]⟩ : ByteArray) = P2 := ⟨_, rfl⟩
        obtain ⟨P3, hP3⟩ : ∃ P3, P2 ++ (⟨#[67, 111, 110, 116, 101, 110, 116, 45, 82, 97, 110, 103, 101, 58, 32]⟩ : ByteArray) = P3 := ⟨_, rfl⟩
        have z1 : P1.size ≤ 32 := by rw [← hP1, ByteArray.size_append]; have : (⟨#[45, 45]⟩ : ByteArray).size = 2 := rfl; omega
        have z2 : P2.size ≤ 34 := by rw [← hP2, ByteArray.size_append]; have : (⟨#[13, 10]⟩ : ByteArray).size = 2 := rfl; omega
        have z3 : P3.size ≤ 49 := by rw [← hP3, ByteArray.size_append]; have : (⟨#[67, 111, 110, 116, 101, 110, 116, 45, 82, 97, 110, 103, 101, 58, 32]⟩ : ByteArray).size = 15 := rfl; omega
        have HS3 : Hid (sl P3 = headL (sl bd)) := by
          show _ = _
          rw [← hP3, ← hP2, ← hP1, sl_append, sl_append, sl_append]; rfl
        have HS1 : Hid (sl P1 = [45, 45] ++ sl bd) := by show _ = _; rw [← hP1, sl_append]; rfl
        clear hq h0 hl0 h20
        have hl0 : ((l.length : Int) == 0) = false := by rw [beq_eq_false_iff_ne]; intro e; exact HN.out (List.eq_nil_of_length_eq_zero (by omega))
        have h20 : l.length ≤ 20 := by rw [decide_eq_false_iff_not] at d20; omega
        go_enter Tryd.func6, Tryd.ntmps6
        go_wp2_with fail
        refine (HB.out _).mono ?_
        rintro e w' ⟨rfl, rfl⟩
        go_wp2_with fail
        go_loopw [26] (fun i wr => ∃ k : Nat, k ≤ l.length ∧ i = .int .i64 k ∧ Bld w'.heap.size w'.heap.size ((l.take k).flatMap (part (sl bd) (sl body) (body.size : Int))) wr ∧ okL (body.size : Int) (l.take k) ∧ Below w'.heap.size w' wr) (fun i _ => l.length - (intOf i).toNat)
        case atStart => exact ⟨0, by omega, rfl, hBw, fun d hd => by simp at hd, (Below.refl _ _).alloc (Nat.le_refl _) _⟩
        case round =>
          obtain ⟨k, hk, rfl, hbl, hok, hbel⟩ := hrel
          have HOk := Lib.hid hok
          have HBl := Lib.hid hbl
          have HLe : Hid (((l.take k).flatMap (part (sl bd) (sl body) (body.size : Int))).length ≤ 2004000) := by
            have := parts_len HBn.out HBd.out (l.take k) hok
            have : (l.take k).length ≤ 20 := by simp; omega
            show _ ≤ _
            omega
          clear hok hbl
          by_cases hlt : k < l.length
          · obtain ⟨b, off, c', he, hbb, hcell⟩ := HR.out.two (fun _ => rfl) (by omega)
            obtain ⟨rfl, rfl⟩ : A = some ⟨b, off, none⟩ ∧ c = c' := by injection he with h1 h2 h3; exact ⟨h1, h3⟩
            obtain ⟨q0, q1⟩ := hcell k hlt (.int .i64 l[k].1) (.int .i64 l[k].2) rfl rfl
            have c0 := (hbel.cell (p := ⟨b, off + k * 2, none⟩) hbb).trans q0
            have c1 := (hbel.cell (p := ⟨b, off + k * 2 + 1, none⟩) hbb).trans q1
            have HT : Hid ((l.take (k + 1)).flatMap (part (sl bd) (sl body) (body.size : Int)) = (l.take k).flatMap (part (sl bd) (sl body) (body.size : Int)) ++ part (sl bd) (sl body) (body.size : Int) l[k]) := by
              show _ = _; rw [List.take_add_one, List.getElem?_eq_getElem hlt, List.flatMap_append]; simp
            have HO2 := Lib.hid (fun hx => okL_take (n := (body.size : Int)) hlt HOk.out hx)
            have HNo : Hid (conB l[k].1 l[k].2 (body.size : Int) = false → ¬ okL (body.size : Int) l) := fun hx hh => by rw [hh l[k] (List.getElem_mem hlt)] at hx; cases hx
            clear hcell q0 q1 he
            generalize (l.take k).flatMap (part (sl bd) (sl body) (body.size : Int)) = bs at *
            generalize l[k] = d at *
            obtain ⟨x, y⟩ := d
            dsimp only at c0 c1
            have HB0 := hbel.alloc hbel.size (.cells #[.int .i64 x, .int .i64 y] 31)
            have HK := Blk.new wr 31 #[.int .i64 x, .int .i64 y]
            have HP1 := HP.out _ HB0
            have HBl2 := Lib.hid (Bld.below HBl.out ((Below.refl _ wr).alloc (Nat.le_refl _) (.cells #[.int .i64 x, .int .i64 y] 31)))
            cases hcon : conB x y (body.size : Int)
            · have HC := Lib.hid (printC_no x y (body.size : Int) (wr.alloc (.cells #[.int .i64 x, .int .i64 y] 31)) hcon)
              have HNk := Lib.hid (HNo.out hcon)
              clear hcon HP1
              go_wp2_with fail
              refine HC.out.mono ?_
              rintro e w2 ⟨rfl, b2⟩
              go_wp2_with fail
              go_ret2
              exact ⟨.inr ⟨fun hh => HNk.out hh.2.2.2, 1, rfl, rfl⟩, belT HB0 b2⟩
            · have HC := Lib.hid (printC_ok x y (body.size : Int) (wr.alloc (.cells #[.int .i64 x, .int .i64 y] 31)) hcon HP1)
              have hin := conB_in hcon
              have hpl := part_len HBn.out HBd.out (d := (x, y)) hcon
              have zT := conL_len hcon
              obtain ⟨nx, rfl⟩ : ∃ nx : Nat, x = nx := ⟨x.toNat, by omega⟩
              obtain ⟨ny, rfl⟩ : ∃ ny : Nat, y = ny := ⟨y.toNat, by omega⟩
              have HO3 := Lib.hid (HO2.out hcon)
              obtain ⟨X, hX⟩ : ∃ X, body.extract nx ny = X := ⟨_, rfl⟩
              have zX : X.size ≤ 99999 := by rw [← hX, ByteArray.size_extract]; omega
              have HSX : Hid (part (sl bd) (sl body) (body.size : Int) ((nx : Int), (ny : Int)) = sl P3 ++ conL nx ny (body.size : Int) ++ [13, 10] ++ [13, 10] ++ sl X ++ [13, 10]) := by
                show _ = _
                rw [HS3.out, ← hX, sl_extract]; rfl
              have i1 : (nx : Int) ≤ (ny : Int) := by omega
              have i2 : (ny : Int) ≤ (body.size : Int) := by omega
              have HSz : Hid (sl (mkS (conL nx ny (body.size : Int))) = conL nx ny (body.size : Int)) := sl_mkS _
              clear hcon HP1 HO2 HNo hin
              generalize conL nx ny (body.size : Int) = cl at *
              generalize mkS cl = T at *
              obtain ⟨P4, hP4⟩ : ∃ P4, P3 ++ T = P4 := ⟨_, rfl⟩
              obtain ⟨P5, hP5⟩ : ∃ P5, P4 ++ (⟨#[13, 10]⟩ : ByteArray) = P5 := ⟨_, rfl⟩
              obtain ⟨P6, hP6⟩ : ∃ P6, P5 ++ (⟨#[13, 10]⟩ : ByteArray) = P6 := ⟨_, rfl⟩
              obtain ⟨P7, hP7⟩ : ∃ P7, P6 ++ X = P7 := ⟨_, rfl⟩
              obtain ⟨P8, hP8⟩ : ∃ P8, P7 ++ (⟨#[13, 10]⟩ : ByteArray) = P8 := ⟨_, rfl⟩
              have zc : (⟨#[13, 10]⟩ : ByteArray).size = 2 := rfl
              have z4 : P4.size ≤ 149 := by rw [← hP4, ByteArray.size_append]; omega
              have z5 : P5.size ≤ 151 := by rw [← hP5, ByteArray.size_append]; omega
              have z6 : P6.size ≤ 153 := by rw [← hP6, ByteArray.size_append]; omega
              have z7 : P7.size ≤ 100152 := by rw [← hP7, ByteArray.size_append]; omega
              have z8 : P8.size ≤ 100154 := by rw [← hP8, ByteArray.size_append]; omega
              have HSP : Hid (sl P8 = part (sl bd) (sl body) (body.size : Int) ((nx : Int), (ny : Int))) := by
                show _ = _
                rw [HSX.out, ← hP8, ← hP7, ← hP6, ← hP5, ← hP4]
                simp only [sl_append]
                rw [HSz.out]; rfl
              clear zc HSX HSz
              go_wp2_with fail
              refine HC.out.mono ?_
              rintro e w2 ⟨rfl, b2⟩
              have B2 := belT HB0 b2
              have hK2 := HK.below b2 HK.lt
              have k0 := hK2.cell 0
              have k1 := hK2.cell 1
              have HBl3 := Lib.hid (Bld.below HBl2.out b2)
              go_wp2_with fail
              refine (writeString_any _ _ _ P8 w2 HBl3.out (by have := HLe.out; omega) B2.size).mono ?_
              rintro e w3 ⟨rfl, hbl3, b3⟩
              rw [HSP.out] at hbl3
              have HB3 := Lib.hid hbl3
              have B3 := Below.trans B2 b3
              clear hbl3 b3
              go_wp2_with fail
              go_roundw
              case rel => exact ⟨k + 1, by omega, by go_num, by rw [HT.out]; exact HB3.out, HO3.out, B3⟩
              case measure => simp [intOf]; omega
          · have hE : l.take k = l := List.take_of_length_le (by omega)
            rw [hE] at HOk HBl HLe
            obtain ⟨Q1, hQ1⟩ : ∃ Q1, P1 ++ (⟨#[45, 45]⟩ : ByteArray) = Q1 := ⟨_, rfl⟩
            obtain ⟨Q2, hQ2⟩ : ∃ Q2, Q1 ++ (⟨#[13, 10]⟩ : ByteArray) = Q2 := ⟨_, rfl⟩
            have y1 : Q1.size ≤ 34 := by rw [← hQ1, ByteArray.size_append]; have : (⟨#[45, 45]⟩ : ByteArray).size = 2 := rfl; omega
            have y2 : Q2.size ≤ 36 := by rw [← hQ2, ByteArray.size_append]; have : (⟨#[13, 10]⟩ : ByteArray).size = 2 := rfl; omega
            have HQe : Hid (sl Q2 = endL (sl bd)) := by
              show _ = _
              rw [← hQ2, ← hQ1, sl_append, sl_append, HS1.out]; rfl
            go_wp2_with fail
            refine (writeString_any _ _ _ Q2 _ HBl.out (by have := HLe.out; omega) hbel.size).mono ?_
            rintro e w3 ⟨rfl, hbl3, b3⟩
            have B3 := Below.trans hbel b3
            go_wp2_with fail
            refine (string_any _ _ _ _ hbl3 B3.size).mono ?_
            rintro e w4 ⟨rfl, b4⟩
            go_wp2_with fail
            go_ret2
            exact ⟨.inl ⟨HQ.out, HN.out, h20, HOk.out, by rw [HQe.out]; rfl⟩, Below.trans B3 b4⟩
      · have d20 : decide (20 < (l.length : Int)) = true := by rw [decide_eq_true_iff]; omega
        have HF : Hid (∀ e, (∃ k : Int, (k == 0) = false ∧ e = .returned (.tuple #[.string ByteArray.empty, .int .i64 k])) → BunA bd body l e) := fun e he => .inr ⟨fun hh => h20 hh.2.2.1, he⟩
        clear hq
        go_enter Tryd.func6, Tryd.ntmps6
        go_wp2_with fail
        refine (HB.out _).mono ?_
        rintro e w' ⟨rfl, rfl⟩
        go_wp2_with fail
        go_ret2
        exact ⟨HF.out _ ⟨1, rfl, rfl⟩, Below.refl _ _⟩
end Spb
end Go.Proofs.YthhhlaoiampinaaDoor
