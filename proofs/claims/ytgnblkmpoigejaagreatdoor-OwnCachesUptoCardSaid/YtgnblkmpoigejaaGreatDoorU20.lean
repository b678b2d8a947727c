import Derived.Test.YtgnblkmpoigejaaGreatDoorU19
import Derived.BigQuiet
import Derived.Test.YtgnblkmpoigejaaGreatDoorU1
set_option linter.unusedVariables false
set_option linter.unusedSimpArgs false
namespace Go.Proofs.YtgnblkmpoigejaaGreatDoor
set_option maxRecDepth 20000
open Go.RowKit
namespace Fr
def wt (l : List Fld) : Nat := (l.map (fun f => f.1.size + f.2.size + 2)).sum
structure LOk (w : World) (u : Value) (l : List Fld) : Prop where
 sl : SlR w e_ss u l
 sum : wt l ≤ 4398046511104
theorem LOk.below {w w' : World} {u : Value} {l : List Fld} (h : LOk w u l) (hb : Below w.heap.size w w') : LOk w' u l := ⟨h.sl.below hb, h.sum⟩
theorem wt_len (l : List Fld) : l.length ≤ wt l := sum_len _ (fun _ => by omega) l
theorem wt_sum (l : List Fld) : (l.map (fun f => f.2.size + 2)).sum ≤ wt l := by
 unfold wt
 induction l with
 | nil => simp
 | cons x m ih => simp only [List.map_cons, List.sum_cons]; omega
theorem LOk.len {w : World} {u : Value} {l : List Fld} (h : LOk w u l) : l.length * 32 ≤ 140737488355328 := by have := wt_len l; have := h.sum; omega
theorem LOk.lims {w : World} {u : Value} {l : List Fld} (h : LOk w u l) : Lims l := fun f hf => by have := sum_mem (fun d : Fld => d.1.size + d.2.size + 2) hf; have := h.sum; unfold wt at this; omega
theorem LOk.join {w : World} {u : Value} {l : List Fld} (h : LOk w u l) (n : ByteArray) : (joinL (selF l n) sep2).length ≤ 140737488351232 := Nat.le_trans (selF_join l n) (by have := wt_sum l; have := h.sum; omega)
theorem LOk.txt {w : World} {u : Value} {l : List Fld} (h : LOk w u l) (n : ByteArray) : (txt l n).size ≤ 140737488351232 := by unfold Fr.txt joinS; rw [mkS_size]; exact h.join n
theorem getL_any (u : Value) (l : List Fld) (n : ByteArray) (w : World) (h : LOk w u l) (hn : n.size ≤ 140737488351232) :
  Calls Tryz.prog 61 #[u, .string n] w fun e w' => e = .returned (.tuple #[.string (txt l n), .bool (isR l n)]) ∧ Below w.heap.size w w' := get_any u l n w h.sl h.len h.lims hn (h.join n)
theorem parseD_any (s : ByteArray) (w : World) (hs : s.size ≤ 140737488351232) :
  Calls Tryz.prog 82 #[.string s] w fun e w' => (∃ v c, e = .returned (.tuple #[v, .int .i64 c]) ∧ SlR w' e_sbs v (dirsD s) ∧ (c = 0 ↔ ∃ ds, dirsOf s = some ds)) ∧ Below w.heap.size w w' := by
 refine (parse_any s w hs).mono ?_
 rintro e w' ⟨ha, hb⟩
 refine ⟨?_, hb⟩
 rcases ha with ⟨ps, ds, v, h1, h2, rfl, ho⟩ | ⟨c, hc1, hc2, rfl, h3, h4⟩
 ·have hd : dirsOf s = some ds := by unfold dirsOf; rw [h1]; dsimp only; rw [h2, allSome_map]
  refine ⟨v, 0, rfl, ?_, fun _ => ⟨ds, hd⟩, fun _ => rfl⟩
  unfold dirsD
  rw [hd]
  exact SlR.of_owns ho
 ·have hd : dirsOf s = none := by
   unfold dirsOf
   cases hsp : Tok.splitL (sl s) with
   | error c' => rfl
   | ok ps =>
    dsimp only
    cases has : allSome ((ps.map mkS).map dirD) with
    | none => rfl
    | some ds => exact absurd (allSome_some has) (fun h => h3 ps ds hsp h)
  refine ⟨_, c, rfl, ?_, ?_⟩
  ·unfold dirsD
   rw [hd]
   exact SlR.nil _ _
  ·rw [hd]
   constructor
   ·intro h; omega
   ·rintro ⟨ds, h⟩; cases h
theorem directives_any (u : Value) (l : List Fld) (w : World) (h : LOk w u l) :
  Calls Tryz.prog 49 #[u] w fun e w' => (∃ v, e = .returned v ∧ SlR w' e_sbs v (dirsF l)) ∧ Below w.heap.size w w' := by
 have HP := Lib.hid (fun w => parseD_any (txt l nCC) w (h.txt nCC))
 have HR : Hid (dirsF l = dirsD (txt l nCC)) := rfl
 have HG := Lib.hid (getL_any u l nCC w h (by decide))
 generalize dirsD (txt l nCC) = ds at *
 generalize txt l nCC = T at *
 generalize isR l nCC = q at *
 go_enter Tryz.func49, Tryz.ntmps49
 go_wp2_with fail
 refine HG.out.mono ?_
 rintro e w1 ⟨rfl, b1⟩
 go_wp2_with fail
 refine (HP.out _).mono ?_
 rintro e w2 ⟨⟨v, c, rfl, hs, -⟩, b2⟩
 have HS := Lib.hid hs
 clear hs
 go_wp2_with fail
 go_ret
 exact ⟨⟨v, rfl, by rw [HR.out]; exact HS.out⟩, belT b1 b2⟩
theorem within_any (n : Int) (w : World) :
  Calls Tryz.prog 93 #[.int .i64 n] w fun e w' => e = .returned (.int .i64 (within n)) ∧ w = w' := by
 go_enter Tryz.func93, Tryz.ntmps93
 go_wp2_with fail
 go_ret
 exact ⟨ret_int (by unfold within; omega), rfl⟩
theorem isTime_any (n : Int) (w : World) :
  Calls Tryz.prog 96 #[.int .i64 n] w fun e w' => e = .returned (.int .i64 (isTime n)) ∧ w = w' := by
 go_enter Tryz.func96, Tryz.ntmps96
 go_wp2_with fail
 go_ret
 exact ⟨ret_int (by unfold isTime; omega), rfl⟩
def toldI (D : ByteArray → Option Nat) (l : List Fld) (n : ByteArray) : Int := match told D l n with | some k => (k : Int) | none => 0
def toldB (D : ByteArray → Option Nat) (l : List Fld) (n : ByteArray) : Bool := (told D l n).isSome
theorem told_any (D : ByteArray → Option Nat) (hD : IsDate D) (u : Value) (l : List Fld) (n : ByteArray) (w : World) (h : LOk w u l) (hn : n.size ≤ 140737488351232) (hp : HasP10 w) (hm : HasMaxL w) :
  Calls Tryz.prog 92 #[u, .string n] w fun e w' => e = .returned (.tuple #[.int .i64 (toldI D l n), .bool (toldB D l n)]) ∧ Below w.heap.size w w' := by
 have HG := Lib.hid (getL_any u l n w h hn)
 have HT := h.txt n
 have HE : Hid (isR l n = false → txt l n = ByteArray.empty) := fun h => by
  unfold isR at h
  have : (selF l n).length = 0 := by simpa using h
  unfold txt
  rw [List.length_eq_zero_iff.1 this]; rfl
 have HR : Hid (told D l n = if isR l n = true then D (txt l n) else none) := rfl
 have HI : Hid (toldI D l n = match told D l n with | some k => (k : Int) | none => 0) := rfl
 have HB : Hid (toldB D l n = (told D l n).isSome) := rfl
 have HP := Lib.hid hp
 have HM := Lib.hid hm
 clear h hn hp hm
 generalize toldI D l n = ri at *
 generalize toldB D l n = rb at *
 generalize told D l n = r at *
 generalize txt l n = T at *
 generalize isR l n = q at *
 go_enter Tryz.func92, Tryz.ntmps92
 go_wp2_with fail
 refine HG.out.mono ?_
 rintro e w1 ⟨rfl, b1⟩
 go_wp2_with fail
 refine (dateParse_any T _ HT (HP.out.below rfl b1) (HM.out.below rfl b1)).mono ?_
 rintro e w2 ⟨ha, b2⟩
 rcases ha with ⟨k, hk, hs, rfl⟩ | ⟨hno, rfl⟩
 ·have hd : D T = some k := by rw [hs]; exact hD.print hk
  have HD := Lib.hid hd
  cases q
  ·have := HE.out rfl
   rw [this, hD.empty] at hd
   cases hd
  ·have hr : r = some k := by rw [HR.out, if_pos rfl]; exact hd
   have hi : ri = (k : Int) := by rw [HI.out, hr]
   have hb : rb = true := by rw [HB.out, hr]; rfl
   clear hs hd hr
   subst hi hb
   go_wp2_with fail
   go_ret2
   exact ⟨rfl, belT b1 b2⟩
 ·have hd : D T = none := by
   rcases hD T with ⟨m, h1, h2, h3⟩ | ⟨h1, _⟩
   ·exact absurd h3 (hno m h1)
   ·exact h1
  have hr : r = none := by rw [HR.out]; split; exact hd; rfl
  have hi : ri = 0 := by rw [HI.out, hr]
  have hb : rb = false := by rw [HB.out, hr]; rfl
  clear hd hr hno
  subst hi hb
  cases q
  ·go_wp2_with fail
   go_ret2
   exact ⟨rfl, belT b1 b2⟩
  ·go_wp2_with fail
   go_ret2
   exact ⟨rfl, belT b1 b2⟩
theorem guessed_any (c : Int) (w : World) :
  Calls Tryz.prog 95 #[.int .i64 c] w fun e w' => e = .returned (.bool (guessed c)) ∧ w = w' := by
 have H : guessed c = decide (c = 200 ∨ c = 203 ∨ c = 204 ∨ c = 300 ∨ c = 301 ∨ c = 308 ∨ c = 404 ∨ c = 405 ∨ c = 410 ∨ c = 414 ∨ c = 501) := by
  unfold guessed
  rw [Bool.eq_iff_iff]
  simp
 by_cases hc : c = 200 ∨ c = 203 ∨ c = 204 ∨ c = 300 ∨ c = 301 ∨ c = 308 ∨ c = 404 ∨ c = 405 ∨ c = 410 ∨ c = 414 ∨ c = 501
 ·rw [H, decide_eq_true hc]
  rcases hc with rfl | rfl | rfl | rfl | rfl | rfl | rfl | rfl | rfl | rfl | rfl
  all_goals
   go_enter Tryz.func95, Tryz.ntmps95
   go_wp2_with fail
   go_ret
   exact ⟨rfl, rfl⟩
 ·rw [H, decide_eq_false hc]
  simp only [not_or] at hc
  obtain ⟨c0, c1, c2, c3, c4, c5, c6, c7, c8, c9, c10⟩ := hc
  have e0 : (c == 200) = false := by rw [beq_eq_false_iff_ne]; exact c0
  have e1 : (c == 203) = false := by rw [beq_eq_false_iff_ne]; exact c1
  have e2 : (c == 204) = false := by rw [beq_eq_false_iff_ne]; exact c2
  have e3 : (c == 300) = false := by rw [beq_eq_false_iff_ne]; exact c3
  have e4 : (c == 301) = false := by rw [beq_eq_false_iff_ne]; exact c4
  have e5 : (c == 308) = false := by rw [beq_eq_false_iff_ne]; exact c5
  have e6 : (c == 404) = false := by rw [beq_eq_false_iff_ne]; exact c6
  have e7 : (c == 405) = false := by rw [beq_eq_false_iff_ne]; exact c7
  have e8 : (c == 410) = false := by rw [beq_eq_false_iff_ne]; exact c8
  have e9 : (c == 414) = false := by rw [beq_eq_false_iff_ne]; exact c9
  have e10 : (c == 501) = false := by rw [beq_eq_false_iff_ne]; exact c10
  clear c0 c1 c2 c3 c4 c5 c6 c7 c8 c9 c10 H
  go_enter Tryz.func95, Tryz.ntmps95
  go_wp2_with fail
  go_ret
  exact ⟨rfl, rfl⟩
set_option maxHeartbeats 1600000 in
theorem stale_any (v : Value) (l : List Dr) (k : Int) (w : World) (h : SlR w e_sbs v l) (hl : l.length ≤ 20) (hz : ∀ d ∈ l, d.1.size ≤ 1000 ∧ d.2.2.size ≤ 1000) :
  Calls Tryz.prog 54 #[v, .int .i64 k] w fun e w' => e = .returned (.bool (staleF l k)) ∧ Below w.heap.size w w' := by
 have HS := Lib.hid h
 have HSEC := Lib.hid (fun v (n : ByteArray) w (h : SlR w e_sbs v l) => seconds_any v l n w h (by omega) (fun d hd => by have := hz d hd; omega))
 have H3 := Lib.hid (fun hn => h.three (fun _ => rfl) hn)
 have HR0 : Hid (findD l nMS = none → staleF l k = false) := fun h => by unfold staleF; rw [h]
 have HR1 : Hid (∀ d, findD l nMS = some d → staleF l k = (!d.2.1 || decide (k ≤ (secs 0 (sl d.2.2) : Int)))) := fun d h => by unfold staleF; rw [h]
 generalize staleF l k = R at *
 obtain ⟨A, c, rfl, -⟩ := h.form
 clear h
 go_enter Tryz.func54, Tryz.ntmps54
 go_wp2_with fail
 go_loopw [11] (fun i wr => ∃ j : Nat, j ≤ l.length ∧ i = .int .i64 j ∧ findD (l.take j) nMS = none ∧ Below w.heap.size w wr) (fun i _ => l.length - (intOf i).toNat)
 case atStart => exact ⟨0, by omega, rfl, rfl, Below.refl _ _⟩
 case round =>
  obtain ⟨j, hj, rfl, hN, hbel⟩ := hrel
  have HN := Lib.hid hN
  clear hN
  by_cases hlt : j < l.length
  ·obtain ⟨b, o, c', he, hb, hcell⟩ := H3.out (by omega)
   obtain ⟨rfl, rfl⟩ : A = some ⟨b, o, none⟩ ∧ c = c' := by injection he with h1 h2 h3; exact ⟨h1, h3⟩
   obtain ⟨q0, q1, q2⟩ := hcell j hlt _ _ _ rfl rfl rfl
   have d0 := (hbel.cell (p := ⟨b, o + j * 3, none⟩) hb).trans q0
   have d1 := (hbel.cell (p := ⟨b, o + j * 3 + 1, none⟩) hb).trans q1
   have d2 := (hbel.cell (p := ⟨b, o + j * 3 + 2, none⟩) hb).trans q2
   have HY := Lib.hid (fun hq => findD_yes HN.out hlt hq)
   have HX := Lib.hid (fun hq => findD_no HN.out hlt hq)
   clear hcell q0 q1 q2 he
   generalize l[j] = f at *
   obtain ⟨fn, fb, fa⟩ := f
   dsimp only at d0 d1 d2 HY HX
   have bA : Below wr.heap.size wr (wr.alloc (.cells #[.string fn, .bool fb, .string fa] 151)) := (Below.refl _ _).alloc (Nat.le_refl _) _
   have BA := belT hbel bA
   by_cases hq : fn = nMS
   ·subst hq
    have hself : (nMS.toList == [109, 97, 120, 45, 115, 116, 97, 108, 101]) = true := by rw [ba_toList]; rfl
    have HF := Lib.hid (HY.out (by simp))
    have HR := Lib.hid (HR1.out _ HF.out)
    have HS2 : Hid (secD l nMS = (secs 0 (sl fa), true)) := secD_some HF.out
    go_wp2_with fail
    refine (HSEC.out _ nMS _ (HS.out.below BA)).mono ?_
    rintro e w1 ⟨rfl, b1⟩
    rw [HS2.out]
    have g1 : w1.cell? ⟨wr.heap.size, 1, none⟩ = some (.bool fb) := (b1.cell (by simp)).trans (by go_simp)
    have B1 := belT BA b1
    clear HSEC HS HY HX HF HS2 HR0 HR1 H3 d0 d1 d2 hself
    generalize secs 0 (sl fa) = sc at *
    cases fb
    ·go_wp2_with fail
     go_ret
     exact ⟨ret_bool (by rw [HR.out]; rfl), B1⟩
    ·go_wp2_with fail
     go_ret
     exact ⟨ret_bool (by rw [HR.out]; simp), B1⟩
   ·have hne : (fn.toList == [109, 97, 120, 45, 115, 116, 97, 108, 101]) = false := by
     rw [beq_eq_false_iff_ne]; intro h; apply hq; apply sl_inj; rw [← ba_toList, h]; rfl
    have HN2 := Lib.hid (HX.out (by rw [beq_eq_false_iff_ne]; intro h; exact hq (sl_inj (by rw [← ba_toList, ← ba_toList, h]))))
    clear hq HY HX
    go_wp2_with fail
    go_roundw
    case rel => exact ⟨j + 1, by omega, by go_num, HN2.out, BA⟩
    case measure => simp [intOf]; omega
  ·have HF : Hid (R = false) := HR0.out (by have := HN.out; rwa [List.take_of_length_le (by omega)] at this)
   go_wp2_with fail
   go_ret
   exact ⟨ret_bool HF.out.symm, hbel⟩
end Fr
end Go.Proofs.YtgnblkmpoigejaaGreatDoor
namespace Go.Proofs.YtgnblkmpoigejaaGreatDoor
set_option maxRecDepth 20000
open Go.RowKit
namespace Fr
structure Hd where
 rm : ByteArray
 rt : ByteArray
 rf : Value
 rb : ByteArray
 code : Int
 rs : ByteArray
 bd : ByteArray
 asked : Int
 came : Int
 mark : Int
def hv (x : Hd) (u : Value) : Value := .agg #[.string x.rm, .string x.rt, x.rf, .string x.rb, .int .i64 x.code, .string x.rs, u, .string x.bd, .int .i64 x.asked, .int .i64 x.came, .int .i64 x.mark]
structure HB (w : World) (g : Nat) (x : Hd) (u : Value) : Prop where
 lt : g < w.heap.size
 c0 : w.cell? ⟨g, 0, none⟩ = some (.string x.rm)
 c1 : w.cell? ⟨g, 1, none⟩ = some (.string x.rt)
 c2 : w.cell? ⟨g, 2, none⟩ = some x.rf
 c3 : w.cell? ⟨g, 3, none⟩ = some (.string x.rb)
 c4 : w.cell? ⟨g, 4, none⟩ = some (.int .i64 x.code)
 c5 : w.cell? ⟨g, 5, none⟩ = some (.string x.rs)
 c6 : w.cell? ⟨g, 6, none⟩ = some u
 c7 : w.cell? ⟨g, 7, none⟩ = some (.string x.bd)
 c8 : w.cell? ⟨g, 8, none⟩ = some (.int .i64 x.asked)
 c9 : w.cell? ⟨g, 9, none⟩ = some (.int .i64 x.came)
 c10 : w.cell? ⟨g, 10, none⟩ = some (.int .i64 x.mark)
theorem HB.below {w w' : World} {g : Nat} {x : Hd} {u : Value} (h : HB w g x u) (hb : Below w.heap.size w w') : HB w' g x u :=
 ⟨Nat.lt_of_lt_of_le h.lt hb.size, (hb.cell h.lt).trans h.c0, (hb.cell h.lt).trans h.c1, (hb.cell h.lt).trans h.c2, (hb.cell h.lt).trans h.c3, (hb.cell h.lt).trans h.c4, (hb.cell h.lt).trans h.c5, (hb.cell h.lt).trans h.c6, (hb.cell h.lt).trans h.c7, (hb.cell h.lt).trans h.c8, (hb.cell h.lt).trans h.c9, (hb.cell h.lt).trans h.c10⟩
theorem HB.new (w : World) (x : Hd) (u : Value) : HB (w.alloc (.cells #[.string x.rm, .string x.rt, x.rf, .string x.rb, .int .i64 x.code, .string x.rs, u, .string x.bd, .int .i64 x.asked, .int .i64 x.came, .int .i64 x.mark] 29)) w.heap.size x u := by
 have h := new_cells w [.string x.rm, .string x.rt, x.rf, .string x.rb, .int .i64 x.code, .string x.rs, u, .string x.bd, .int .i64 x.asked, .int .i64 x.came, .int .i64 x.mark] 29
 have e : ∀ k, ((⟨w.heap.size, 0, none⟩ : Addr).add k) = ⟨w.heap.size, k, none⟩ := fun k => by unfold Addr.add; split <;> simp_all
 simp only [e] at h
 exact ⟨by simp, h 0 _ rfl, h 1 _ rfl, h 2 _ rfl, h 3 _ rfl, h 4 _ rfl, h 5 _ rfl, h 6 _ rfl, h 7 _ rfl, h 8 _ rfl, h 9 _ rfl, h 10 _ rfl⟩
abbrev hA (w : World) (x : Hd) (u : Value) : World := w.alloc (.cells #[.string x.rm, .string x.rt, x.rf, .string x.rb, .int .i64 x.code, .string x.rs, u, .string x.bd, .int .i64 x.asked, .int .i64 x.came, .int .i64 x.mark] 29)
set_option maxHeartbeats 1600000 in
theorem dated_any (D : ByteArray → Option Nat) (hD : IsDate D) (x : Hd) (u : Value) (l : List Fld) (w : World) (h : LOk w u l) (hp : HasP10 w) (hm : HasMaxL w) :
  Calls Tryz.prog 94 #[hv x u] w fun e w' => e = .returned (.int .i64 (dated D l x.came)) ∧ Below w.heap.size w w' := by
 have b0 : Below w.heap.size w (hA w x u) := (Below.refl _ _).alloc (Nat.le_refl _) _
 have HT := Lib.hid (told_any D hD u l nDate (hA w x u) (h.below b0) (by decide) (hp.below rfl b0) (hm.below rfl b0))
 have HH := Lib.hid (HB.new w x u)
 have HR : Hid (dated D l x.came = if toldB D l nDate = true then toldI D l nDate else isTime x.came) := by
  show _ = _
  unfold dated toldB toldI
  cases told D l nDate <;> rfl
 have HIT := Lib.hid (fun w => isTime_any x.came w)
 generalize dated D l x.came = R at *
 generalize toldB D l nDate = tb at *
 generalize toldI D l nDate = ti at *
 generalize isTime x.came = ic at *
 clear h hp hm
 obtain ⟨rm, rt, rf, rb, code, rs, bd, asked, came, mark⟩ := x
 unfold hv
 unfold hA at *
 dsimp only at *
 go_enter Tryz.func94, Tryz.ntmps94
 go_wp2_with fail
 refine HT.out.mono ?_
 rintro e w1 ⟨rfl, b1⟩
 have B1 := b0.trans (b1.mono b0.size)
 obtain ⟨hl, x0, x1, x2, x3, x4, x5, x6, x7, x8, x9, x10⟩ := HH.out.below b1
 dsimp only at x0 x1 x2 x3 x4 x5 x6 x7 x8 x9 x10
 cases tb
 ·go_wp2_with fail
  refine (HIT.out _).mono ?_
  rintro e w' ⟨rfl, rfl⟩
  go_wp2_with fail
  go_ret
  exact ⟨ret_int (by rw [HR.out]; rfl), B1⟩
 ·go_wp2_with fail
  go_ret
  exact ⟨ret_int (by rw [HR.out]; rfl), B1⟩
set_option maxHeartbeats 6400000 in
theorem life_any (D : ByteArray → Option Nat) (hD : IsDate D) (x : Hd) (u : Value) (l : List Fld) (w : World) (h : LOk w u l) (hp : HasP10 w) (hm : HasMaxL w) :
  Calls Tryz.prog 50 #[hv x u] w fun e w' => e = .returned (.int .i64 (lifeF D l x.code x.came)) ∧ Below w.heap.size w w' := by
 have b0 : Below w.heap.size w (hA w x u) := (Below.refl _ _).alloc (Nat.le_refl _) _
 have HL0 := Lib.hid h
 have HL := Lib.hid (h.below b0)
 have HP := Lib.hid hp
 have HM := Lib.hid hm
 have HH := Lib.hid (HB.new w x u)
 have hdt := dated_in hD l x.came
 have hdl := (dirsD_ok (txt l nCC)).1
 have hdz := (dirsD_ok (txt l nCC)).2
 have HDIR := Lib.hid (fun w h => directives_any u l w h)
 have HSEC := Lib.hid (fun v (n : ByteArray) w (h : SlR w e_sbs v (dirsF l)) => seconds_any v (dirsF l) n w h (by unfold dirsF; omega) (fun d hd => by have := hdz d hd; omega))
 have HTO := Lib.hid (fun n w h (hn : n.size ≤ 140737488351232) hp hm => told_any D hD u l n w h hn hp hm)
 have HDA := Lib.hid (fun w h hp hm => dated_any D hD x u l w h hp hm)
 have HGE := Lib.hid (fun n w h (hn : n.size ≤ 140737488351232) => getL_any u l n w h hn)
 have HGU := Lib.hid (fun w => guessed_any x.code w)
 have HWI := Lib.hid (fun n w => within_any n w)
 have hti : ∀ n, 0 ≤ toldI D l n ∧ toldI D l n ≤ 253402300799 := fun n => by
  unfold toldI
  split
  ·rename_i k hk; have := told_le hD hk; omega
  ·omega
 have hi1 := hti nExp
 have hi2 := hti nLM
 have HR : Hid (lifeF D l x.code x.came = if (secD (dirsF l) nSM).2 = true then ((secD (dirsF l) nSM).1 : Int) else if (secD (dirsF l) nMA).2 = true then ((secD (dirsF l) nMA).1 : Int) else
   if isR l nExp = true then (if toldB D l nExp = true then within (toldI D l nExp - dated D l x.came) else 0) else
   if toldB D l nLM = true then (if guessed x.code = true then within ((dated D l x.came - toldI D l nLM).tdiv 10) else 0) else 0) := by
  show _ = _
  unfold lifeF toldB toldI
  cases told D l nExp <;> cases told D l nLM <;> rfl
 have hs1 := secD_le (dirsF l) nSM
 have hs2 := secD_le (dirsF l) nMA
 have HSM := Lib.hid (fun v w h => HSEC.out v nSM w h)
 have HMA := Lib.hid (fun v w h => HSEC.out v nMA w h)
 have HTE := Lib.hid (fun w h hp hm => HTO.out nExp w h (by decide) hp hm)
 have HTL := Lib.hid (fun w h hp hm => HTO.out nLM w h (by decide) hp hm)
 have HEX := Lib.hid (fun w h => HGE.out nExp w h (by decide))
 clear h hp hm hti hdl hdz HSEC HTO HGE
 generalize lifeF D l x.code x.came = R at *
 generalize secD (dirsF l) nSM = sm at *
 generalize secD (dirsF l) nMA = ma at *
 generalize dirsF l = ds at *
 generalize toldB D l nExp = eb at *
 generalize toldI D l nExp = ei at *
 generalize toldB D l nLM = lb at *
 generalize toldI D l nLM = li at *
 generalize isR l nExp = ex at *
 generalize txt l nExp = tx at *
 generalize dated D l x.came = dt at *
 generalize guessed x.code = gu at *
 obtain ⟨sn, sb⟩ := sm
 obtain ⟨mn, mb⟩ := ma
 obtain ⟨rm, rt, rf, rb, code, rs, bd, asked, came, mark⟩ := x
 unfold hv at *
 unfold hA at *
 dsimp only at *
 go_enter Tryz.func50, Tryz.ntmps50
 go_wp2_with fail
 refine (HDIR.out _ HL.out).mono ?_
 rintro e w1 ⟨⟨v, rfl, hs⟩, b1⟩
 have B1 := b0.trans (b1.mono b0.size)
 have HV1 := Lib.hid hs
 have HH1 := Lib.hid (HH.out.below b1)
 clear hs HDIR HH
 have b2 : Below w1.heap.size w1 (w1.alloc (.cells #[.string nSM, .string nMA] 9)) := (Below.refl _ _).alloc (Nat.le_refl _) _
 have k0 : (w1.alloc (.cells #[.string nSM, .string nMA] 9)).cell? ⟨w1.heap.size, 0, none⟩ = some (.string nSM) := by go_simp
 have k1 : (w1.alloc (.cells #[.string nSM, .string nMA] 9)).cell? ⟨w1.heap.size, 1, none⟩ = some (.string nMA) := by go_simp
 have hk : w1.heap.size < (w1.alloc (.cells #[.string nSM, .string nMA] 9)).heap.size := by simp
 unfold nSM nMA at b2 k0 k1 hk
 go_wp2_with fail
 generalize w1.alloc (.cells #[.string ⟨#[115, 45, 109, 97, 120, 97, 103, 101]⟩, .string ⟨#[109, 97, 120, 45, 97, 103, 101]⟩] 9) = w2 at *
 have B2 := belT B1 b2
 have HV2 := Lib.hid (HV1.out.below b2)
 have HH2 := Lib.hid (HH1.out.below b2)
 have HK := Lib.hid (fun w' (hb : Below w2.heap.size w2 w') => show w'.cell? ⟨w1.heap.size, 0, none⟩ = some (.string ⟨#[115, 45, 109, 97, 120, 97, 103, 101]⟩) ∧ w'.cell? ⟨w1.heap.size, 1, none⟩ = some (.string ⟨#[109, 97, 120, 45, 97, 103, 101]⟩) from ⟨(hb.cell hk).trans k0, (hb.cell hk).trans k1⟩)
 clear k0 k1 b2 hk
 go_loopw [22] (fun i wr => (i = .int .i64 0 ∨ (i = .int .i64 1 ∧ sb = false) ∨ (i = .int .i64 2 ∧ sb = false ∧ mb = false)) ∧ Below w2.heap.size w2 wr) (fun i _ => 2 - (intOf i).toNat)
 case atStart => exact ⟨.inl rfl, Below.refl _ _⟩
 case round =>
  obtain ⟨hi, hbel⟩ := hrel
  obtain ⟨k0, k1⟩ := HK.out _ hbel
  have Br := B2.trans (hbel.mono B2.size)
  rcases hi with rfl | ⟨rfl, rfl⟩ | ⟨rfl, rfl, rfl⟩
  ·go_wp2_with fail
   refine (HSM.out _ _ (HV2.out.below hbel)).mono ?_
   rintro e w3 ⟨rfl, b3⟩
   cases sb
   ·go_wp2_with fail
    go_roundw
    case rel => exact ⟨by simp, belT hbel b3⟩
    case measure => simp [intOf]
   ·go_wp2_with fail
    go_ret
    exact ⟨ret_int (by rw [HR.out]; rfl), belT Br b3⟩
  ·go_wp2_with fail
   refine (HMA.out _ _ (HV2.out.below hbel)).mono ?_
   rintro e w3 ⟨rfl, b3⟩
   cases mb
   ·go_wp2_with fail
    go_roundw
    case rel => exact ⟨by simp, belT hbel b3⟩
    case measure => simp [intOf]
   ·go_wp2_with fail
    go_ret
    exact ⟨ret_int (by rw [HR.out]; rfl), belT Br b3⟩
  ·have HLr := Lib.hid (HL0.out.below Br)
   have HHr := Lib.hid (HH2.out.below hbel)
   clear k0 k1
   go_wp2_with fail
   refine (HEX.out _ HLr.out).mono ?_
   rintro e w3 ⟨rfl, b3⟩
   have B3 := belT Br b3
   cases ex
   ·go_wp2_with fail
    refine (HTL.out _ (HL0.out.below B3) (HP.out.below rfl B3) (HM.out.below rfl B3)).mono ?_
    rintro e w4 ⟨rfl, b4⟩
    have B4 := belT B3 b4
    obtain ⟨hl, x0, x1, x2, x3, x4, x5, x6, x7, x8, x9, x10⟩ := (HHr.out.below b3).below b4
    dsimp only at x0 x1 x2 x3 x4 x5 x6 x7 x8 x9 x10
    cases lb
    ·go_wp2_with fail
     go_ret
     exact ⟨ret_int (by rw [HR.out]; rfl), B4⟩
    ·go_wp2_with fail
     refine (HGU.out _).mono ?_
     rintro e w' ⟨rfl, rfl⟩
     cases gu
     ·go_wp2_with fail
      go_ret
      exact ⟨ret_int (by rw [HR.out]; rfl), B4⟩
     ·go_wp2_with fail
      refine (HDA.out _ (HL0.out.below B4) (HP.out.below rfl B4) (HM.out.below rfl B4)).mono ?_
      rintro e w5 ⟨rfl, b5⟩
      go_wp2_with fail
      refine (HWI.out _ _).mono ?_
      rintro e w' ⟨rfl, rfl⟩
      go_wp2_with fail
      go_ret
      exact ⟨ret_int (by rw [HR.out]; simp), belT B4 b5⟩
   ·go_wp2_with fail
    refine (HTE.out _ (HL0.out.below B3) (HP.out.below rfl B3) (HM.out.below rfl B3)).mono ?_
    rintro e w4 ⟨rfl, b4⟩
    have B4 := belT B3 b4
    obtain ⟨hl, x0, x1, x2, x3, x4, x5, x6, x7, x8, x9, x10⟩ := (HHr.out.below b3).below b4
    dsimp only at x0 x1 x2 x3 x4 x5 x6 x7 x8 x9 x10
    cases eb
    ·go_wp2_with fail
     go_ret
     exact ⟨ret_int (by rw [HR.out]; rfl), B4⟩
    ·go_wp2_with fail
     refine (HDA.out _ (HL0.out.below B4) (HP.out.below rfl B4) (HM.out.below rfl B4)).mono ?_
     rintro e w5 ⟨rfl, b5⟩
     go_wp2_with fail
     refine (HWI.out _ _).mono ?_
     rintro e w' ⟨rfl, rfl⟩
     go_wp2_with fail
     go_ret
     exact ⟨ret_int (by rw [HR.out]; simp), belT B4 b5⟩
theorem lit_dir (w : World) (a : ByteArray) : SlR (w.alloc (.cells #[.string nage, .bool true, .string a] 151)) e_sbs (.slice (some ⟨w.heap.size, 0, none⟩) 1 1) [(nage, true, a)] := SlR.lit (enc := e_sbs) w [.string nage, .bool true, .string a] 151 [(nage, true, a)] rfl
theorem sec_age (a : ByteArray) : secD [(nage, true, a)] nage = (secs 0 (sl a), true) := by
 apply secD_some (d := (nage, true, a))
 unfold findD
 simp
set_option maxHeartbeats 6400000 in
theorem age_any (D : ByteArray → Option Nat) (hD : IsDate D) (x : Hd) (u : Value) (l : List Fld) (now : Int) (w : World) (h : LOk w u l) (hp : HasP10 w) (hm : HasMaxL w) :
  Calls Tryz.prog 51 #[hv x u, .int .i64 now] w fun e w' => e = .returned (.int .i64 (ageF D l x.came x.asked now)) ∧ Below w.heap.size w w' := by
 have b0 : Below w.heap.size w (hA w x u) := (Below.refl _ _).alloc (Nat.le_refl _) _
 have HL0 := Lib.hid h
 have HP := Lib.hid hp
 have HM := Lib.hid hm
 have HH := Lib.hid (HB.new w x u)
 have hdt := dated_in hD l x.came
 have hc := isTime_in x.came
 have ha := isTime_in x.asked
 have hn := isTime_in now
 have HIc := Lib.hid (fun w => isTime_any x.came w)
 have HIa := Lib.hid (fun w => isTime_any x.asked w)
 have HIn := Lib.hid (fun w => isTime_any now w)
 have HDA := Lib.hid (fun w h hp hm => dated_any D hD x u l w h hp hm)
 have HGE := Lib.hid (fun w h => getL_any u l nAge w h (by decide))
 have HWI := Lib.hid (fun n w => within_any n w)
 have hs := secs_le (sl (txt l nAge)) 0 (by omega)
 have htx := h.txt nAge
 have HSE := Lib.hid (fun v w (h : SlR w e_sbs v [(nage, true, txt l nAge)]) => seconds_any v [(nage, true, txt l nAge)] nage w h (by simp) (fun d hd => by rw [List.mem_singleton.1 hd]; exact htx))
 have HSA := Lib.hid (sec_age (txt l nAge))
 have HR : Hid (ageF D l x.came x.asked now = within (max (max (isTime x.came - dated D l x.came) 0) ((secs 0 (sl (txt l nAge)) : Int) + max (isTime x.came - isTime x.asked) 0) + max (isTime now - isTime x.came) 0)) := rfl
 clear h hp hm htx
 generalize ageF D l x.came x.asked now = R at *
 rw [HSA.out] at HSE
 generalize secs 0 (sl (txt l nAge)) = sn at *
 generalize txt l nAge = T at *
 generalize isR l nAge = q at *
 generalize dated D l x.came = dt at *
 generalize isTime x.came = ic at *
 generalize isTime x.asked = ia at *
 generalize isTime now = inow at *
 clear HSA
 obtain ⟨rm, rt, rf, rb, code, rs, bd, asked, came, mark⟩ := x
 unfold hv at *
 unfold hA at *
 dsimp only at *
 go_enter Tryz.func51, Tryz.ntmps51
 go_wp2_with fail
 have HX := Lib.hid (fun w' (hb : Below (w.alloc (.cells #[.string rm, .string rt, rf, .string rb, .int .i64 code, .string rs, u, .string bd, .int .i64 asked, .int .i64 came, .int .i64 mark] 29)).heap.size (w.alloc (.cells #[.string rm, .string rt, rf, .string rb, .int .i64 code, .string rs, u, .string bd, .int .i64 asked, .int .i64 came, .int .i64 mark] 29)) w') => HH.out.below hb)
 have hbel : ∀ {P : Ending → Prop} {f : FuncId} {vs : Array Value} {w : World}, Calls Tryz.prog f vs w (fun e w'' => P e ∧ w = w'') → Calls Tryz.prog f vs w (fun e w'' => P e ∧ Below w.heap.size w w'') := fun h => h.mono fun e w'' ⟨h1, h2⟩ => ⟨h1, h2 ▸ Below.refl _ _⟩
 have HIc' := Lib.hid (fun w => hbel (HIc.out w))
 have HIa' := Lib.hid (fun w => hbel (HIa.out w))
 have HIn' := Lib.hid (fun w => hbel (HIn.out w))
 clear hbel HIc HIa HIn
 refine wp_region_seq [(true, 0), (true, 1), (true, 3), (true, 4), (true, 6), (false, 2), (false, 5), (false, 7), (true, 8), (true, 9), (true, 10)] (fun w' => Below (w.alloc (.cells #[.string rm, .string rt, rf, .string rb, .int .i64 code, .string rs, u, .string bd, .int .i64 asked, .int .i64 came, .int .i64 mark] 29)).heap.size (w.alloc (.cells #[.string rm, .string rt, rf, .string rb, .int .i64 code, .string rs, u, .string bd, .int .i64 asked, .int .i64 came, .int .i64 mark] 29)) w') (by kernel_rfl) (by kernel_rfl) (fun _ _ _ _ _ h => h) (by kernel_rfl) (by kernel_rfl) (by first | exact (Below.refl _ _).drew | exact Below.drew (by assumption)) ?_
 have bS : Below (w.alloc (.cells #[.string rm, .string rt, rf, .string rb, .int .i64 code, .string rs, u, .string bd, .int .i64 asked, .int .i64 came, .int .i64 mark] 29)).heap.size (w.alloc (.cells #[.string rm, .string rt, rf, .string rb, .int .i64 code, .string rs, u, .string bd, .int .i64 asked, .int .i64 came, .int .i64 mark] 29)) _ := (by first | exact Below.drew (by assumption) | exact (Below.refl _ (w.alloc (.cells #[.string rm, .string rt, rf, .string rb, .int .i64 code, .string rs, u, .string bd, .int .i64 asked, .int .i64 came, .int .i64 mark] 29))).drew)
 iterate 11 (first
  | (apply seqH_skip; (focus (simp only [List.getElem?_toArray, List.getElem?_cons_succ, List.getElem?_cons_zero]; rfl)); (focus rfl); simp only [Act.put, List.setIfInBounds_toArray, List.set_cons_zero, List.set_cons_succ])
  | (apply seqH_take; (focus (simp only [List.getElem?_toArray, List.getElem?_cons_succ, List.getElem?_cons_zero]; rfl)); (focus rfl); (focus (intro w' hS; obtain ⟨hl, x0, x1, x2, x3, x4, x5, x6, x7, x8, x9, x10⟩ := HX.out _ hS; dsimp only at x0 x1 x2 x3 x4 x5 x6 x7 x8 x9 x10; first | (go_simp; rfl) | (go_simp; done))); simp only [Act.put, List.setIfInBounds_toArray, List.set_cons_zero, List.set_cons_succ])
  | (apply seqH_pass; (focus (simp only [List.getElem?_toArray, List.getElem?_cons_succ, List.getElem?_cons_zero]; rfl)); (focus rfl); (focus assumption); simp only [Act.put, List.setIfInBounds_toArray, List.set_cons_zero, List.set_cons_succ])
  | (apply seqH_eff; (focus (simp only [List.getElem?_toArray, List.getElem?_cons_succ, List.getElem?_cons_zero]; rfl)); (focus rfl); intro K hK; go_simp; (go_at_call 96; (first | (with_reducible refine (HIa'.out _).mono ?_) | (with_reducible refine (HIc'.out _).mono ?_) | (with_reducible refine (HIn'.out _).mono ?_))); rintro e wN ⟨rfl, bN⟩; refine hK _ _ (seq_next (by assumption) bN (fun bS' => ?_)); clear hK K))
 refine seqH_nil ?_
 have bR : Below (w.alloc (.cells #[.string rm, .string rt, rf, .string rb, .int .i64 code, .string rs, u, .string bd, .int .i64 asked, .int .i64 came, .int .i64 mark] 29)).heap.size (w.alloc (.cells #[.string rm, .string rt, rf, .string rb, .int .i64 code, .string rs, u, .string bd, .int .i64 asked, .int .i64 came, .int .i64 mark] 29)) wN := by assumption
 have B1 := b0.trans (bR.mono b0.size)
 have HHr := Lib.hid (HH.out.below bR)
 clear HX HIc' HIa' HIn'
 obtain ⟨hl, x0, x1, x2, x3, x4, x5, x6, x7, x8, x9, x10⟩ := HHr.out
 dsimp only at x0 x1 x2 x3 x4 x5 x6 x7 x8 x9 x10
 go_wp2_with fail
 clear x0 x1 x2 x3 x4 x5 x6 x7 x8 x9 x10
 refine (HGE.out _ (HL0.out.below B1)).mono ?_
 rintro e w2 ⟨rfl, b2⟩
 have B2 := belT B1 b2
 have HD2 := Lib.hid (lit_dir w2 T)
 have b3 : Below w2.heap.size w2 (w2.alloc (.cells #[.string nage, .bool true, .string T] 151)) := (Below.refl _ _).alloc (Nat.le_refl _) _
 have HH3 := Lib.hid ((HHr.out.below b2).below b3)
 have B3 := belT B2 b3
 go_wp2_with fail
 refine (HSE.out _ _ HD2.out).mono ?_
 rintro e w4 ⟨rfl, b4⟩
 have B4 := belT B3 b4
 obtain ⟨hl, x0, x1, x2, x3, x4, x5, x6, x7, x8, x9, x10⟩ := HH3.out.below b4
 dsimp only at x0 x1 x2 x3 x4 x5 x6 x7 x8 x9 x10
 go_wp2_with fail
 refine (HDA.out _ (HL0.out.below B4) (HP.out.below rfl B4) (HM.out.below rfl B4)).mono ?_
 rintro e w5 ⟨rfl, b5⟩
 have B5 := belT B4 b5
 go_wp2_with fail
 refine (HWI.out _ _).mono ?_
 rintro e w' ⟨rfl, rfl⟩
 go_wp2_with fail
 go_ret
 exact ⟨ret_int (by rw [HR.out]; congr 1; omega), B5⟩
end Fr
end Go.Proofs.YtgnblkmpoigejaaGreatDoor
namespace Go.Proofs.YtgnblkmpoigejaaGreatDoor
set_option maxRecDepth 20000
open Go.RowKit
namespace Fr
theorem bound_take (says : List Dr) (k : Nat) (hk : k < bnames.length) : (bnames.take (k + 1)).any (fun n => hasD says n) = ((bnames.take k).any (fun n => hasD says n) || hasD says bnames[k]) := by
 rw [List.take_add_one, List.getElem?_eq_getElem hk, List.any_append]
 simp
theorem bnames_cells : ([.string ⟨#[109, 117, 115, 116, 45, 114, 101, 118, 97, 108, 105, 100, 97, 116, 101]⟩, .string ⟨#[112, 114, 111, 120, 121, 45, 114, 101, 118, 97, 108, 105, 100, 97, 116, 101]⟩, .string ⟨#[115, 45, 109, 97, 120, 97, 103, 101]⟩, .string ⟨#[110, 111, 45, 99, 97, 99, 104, 101]⟩] : List Value) = bnames.flatMap es := rfl
set_option maxHeartbeats 12800000 in
theorem use_any (D : ByteArray → Option Nat) (hD : IsDate D) (v0 : Value) (l0 : List Fld) (x : Hd) (u : Value) (l : List Fld) (now : Int) (w : World) (h0 : LOk w v0 l0) (h : LOk w u l) (hp : HasP10 w) (hm : HasMaxL w) :
  Calls Tryz.prog 15 #[v0, hv x u, .int .i64 now] w fun e w' => e = .returned (.int .i64 (useF (dirsF l0) (dirsF l) (lifeF D l x.code x.came) (ageF D l x.came x.asked now))) ∧ Below w.heap.size w w' := by
 have b0 : Below w.heap.size w (hA w x u) := (Below.refl _ _).alloc (Nat.le_refl _) _
 have HL0 := Lib.hid h
 have HA0 := Lib.hid h0
 have HP := Lib.hid hp
 have HM := Lib.hid hm
 have HH := Lib.hid (HB.new w x u)
 have hli := lifeF_in D l x.code x.came
 have hag : 0 ≤ ageF D l x.came x.asked now ∧ ageF D l x.came x.asked now ≤ 2147483648 := within_in _
 have HD0 := Lib.hid (fun w h => directives_any v0 l0 w h)
 have HD1 := Lib.hid (fun w h => directives_any u l w h)
 have HLI := Lib.hid (fun w h hp hm => life_any D hD x u l w h hp hm)
 have HAG := Lib.hid (fun w h hp hm => age_any D hD x u l now w h hp hm)
 have ha1 := (dirsD_ok (txt l0 nCC)).1
 have ha2 := (dirsD_ok (txt l0 nCC)).2
 have hs1 := (dirsD_ok (txt l nCC)).1
 have HSEC := Lib.hid (fun v (n : ByteArray) w (h : SlR w e_sbs v (dirsF l0)) => seconds_any v (dirsF l0) n w h (by unfold dirsF; omega) (fun d hd => by have := ha2 d hd; omega))
 have HHA := Lib.hid (fun v (n : ByteArray) w (h : SlR w e_sbs v (dirsF l0)) => has_any v (dirsF l0) n w h (by unfold dirsF; omega))
 have HHS := Lib.hid (fun v (n : ByteArray) w (h : SlR w e_sbs v (dirsF l)) => has_any v (dirsF l) n w h (by unfold dirsF; omega))
 have HSTA := Lib.hid (fun v k w (h : SlR w e_sbs v (dirsF l0)) => stale_any v (dirsF l0) k w h ha1 ha2)
 have hq1 := secD_le (dirsF l0) nMF
 have hq2 := secD_le (dirsF l0) nMA
 have HMF := Lib.hid (fun v w h => HSEC.out v nMF w h)
 have HMA := Lib.hid (fun v w h => HSEC.out v nMA w h)
 have HNA := Lib.hid (fun v w h => HHA.out v nNC w h)
 have HNS := Lib.hid (fun v w h => HHS.out v nNC w h)
 have HOC := Lib.hid (fun v w h => HHA.out v nOC w h)
 have HR : Hid (useF (dirsF l0) (dirsF l) (lifeF D l x.code x.came) (ageF D l x.came x.asked now) =
   if hasD (dirsF l0) nNC = true ∨ hasD (dirsF l) nNC = true then (if hasD (dirsF l0) nOC = true then 3 else 2) else
   if (secD (dirsF l0) nMA).2 = true ∧ ((secD (dirsF l0) nMA).1 : Int) < ageF D l x.came x.asked now then (if hasD (dirsF l0) nOC = true then 3 else 2) else
   if (secD (dirsF l0) nMF).2 = true ∧ lifeF D l x.code x.came - ageF D l x.came x.asked now < ((secD (dirsF l0) nMF).1 : Int) then (if hasD (dirsF l0) nOC = true then 3 else 2) else
   if ageF D l x.came x.asked now < lifeF D l x.code x.came ∨ (boundF (dirsF l) = false ∧ staleF (dirsF l0) (ageF D l x.came x.asked now - lifeF D l x.code x.came) = true) then 1 else (if hasD (dirsF l0) nOC = true then 3 else 2)) := rfl
 have HBT := Lib.hid (bound_take (dirsF l))
 have HB4 : Hid ((bnames.take 4).any (fun n => hasD (dirsF l) n) = boundF (dirsF l)) := rfl
 have HHSn : Hid (∀ v (n : ByteArray) w, SlR w e_sbs v (dirsF l) → Calls Tryz.prog 52 #[v, .string n] w fun e w' => e = .returned (.bool (hasD (dirsF l) n)) ∧ Below w.heap.size w w') := fun v n w h => HHS.out v n w h
 rw [show (findD (dirsF l0) nNC).isSome = hasD (dirsF l0) nNC from rfl] at HNA
 rw [show (findD (dirsF l) nNC).isSome = hasD (dirsF l) nNC from rfl] at HNS
 rw [show (findD (dirsF l0) nOC).isSome = hasD (dirsF l0) nOC from rfl] at HOC
 clear h h0 hp hm ha1 ha2 hs1 HSEC HHA HHS
 generalize lifeF D l x.code x.came = li at *
 generalize ageF D l x.came x.asked now = ag at *
 have HSTK := Lib.hid (fun v w h => HSTA.out v (ag - li) w h)
 clear HSTA
 generalize staleF (dirsF l0) (ag - li) = sta at *
 generalize useF (dirsF l0) (dirsF l) li ag = R at *
 generalize secD (dirsF l0) nMF = mf at *
 generalize secD (dirsF l0) nMA = ma at *
 generalize hasD (dirsF l0) nNC = na at *
 generalize hasD (dirsF l) nNC = ns at *
 generalize hasD (dirsF l0) nOC = oc at *
 generalize boundF (dirsF l) = bo at *
 generalize dirsF l0 = d0 at *
 generalize dirsF l = d1 at *
 obtain ⟨fn, fb⟩ := mf
 obtain ⟨an, ab⟩ := ma
 obtain ⟨rm, rt, rf, rb, code, rs, bd, asked, came, mark⟩ := x
 unfold hv at *
 unfold hA at *
 dsimp only at *
 go_enter Tryz.func15, Tryz.ntmps15
 go_wp2_with fail
 have HX := Lib.hid (fun w' (hb : Below (w.alloc (.cells #[.string rm, .string rt, rf, .string rb, .int .i64 code, .string rs, u, .string bd, .int .i64 asked, .int .i64 came, .int .i64 mark] 29)).heap.size (w.alloc (.cells #[.string rm, .string rt, rf, .string rb, .int .i64 code, .string rs, u, .string bd, .int .i64 asked, .int .i64 came, .int .i64 mark] 29)) w') => HH.out.below hb)
 have HX0 := Lib.hid (fun w' (hb : Below (w.alloc (.cells #[.string rm, .string rt, rf, .string rb, .int .i64 code, .string rs, u, .string bd, .int .i64 asked, .int .i64 came, .int .i64 mark] 29)).heap.size (w.alloc (.cells #[.string rm, .string rt, rf, .string rb, .int .i64 code, .string rs, u, .string bd, .int .i64 asked, .int .i64 came, .int .i64 mark] 29)) w') => b0.trans (hb.mono b0.size))
 clear HH b0
 generalize w.alloc (.cells #[.string rm, .string rt, rf, .string rb, .int .i64 code, .string rs, u, .string bd, .int .i64 asked, .int .i64 came, .int .i64 mark] 29) = wa at *
 refine wp_region_seq [(true, 0), (true, 2), (true, 3), (true, 4), (false, 1), (false, 5), (true, 6), (true, 7)] (fun w' => Below wa.heap.size wa w') (by kernel_rfl) (by kernel_rfl) (fun _ _ _ _ _ h => h) (by kernel_rfl) (by kernel_rfl) (by first | exact (Below.refl _ _).drew | exact Below.drew (by assumption)) ?_
 have bS : Below wa.heap.size wa _ := (by first | exact Below.drew (by assumption) | exact (Below.refl _ wa).drew)
 iterate 4 (first | (apply seqH_skip; (focus (simp only [List.getElem?_toArray, List.getElem?_cons_succ, List.getElem?_cons_zero]; rfl)); (focus rfl); simp only [Act.put, List.setIfInBounds_toArray, List.set_cons_zero, List.set_cons_succ]) | (apply seqH_take; (focus (simp only [List.getElem?_toArray, List.getElem?_cons_succ, List.getElem?_cons_zero]; rfl)); (focus rfl); (focus (intro w' hS; obtain ⟨hl, x0, x1, x2, x3, x4, x5, x6, x7, x8, x9, x10⟩ := HX.out _ hS; dsimp only at x0 x1 x2 x3 x4 x5 x6 x7 x8 x9 x10; first | (go_simp; rfl) | (go_simp; done))); simp only [Act.put, List.setIfInBounds_toArray, List.set_cons_zero, List.set_cons_succ]) | (apply seqH_pass; (focus (simp only [List.getElem?_toArray, List.getElem?_cons_succ, List.getElem?_cons_zero]; rfl)); (focus rfl); (focus assumption); simp only [Act.put, List.setIfInBounds_toArray, List.set_cons_zero, List.set_cons_succ]))
 apply seqH_eff
 (focus (simp only [List.getElem?_toArray, List.getElem?_cons_succ, List.getElem?_cons_zero]; rfl))
 (focus rfl)
 intro K hK
 go_simp
 go_at_call 49
 refine (HD0.out _ (HA0.out.below (HX0.out _ bS))).mono ?_
 rintro e w1 ⟨⟨v, rfl, hs1⟩, b1⟩
 refine hK _ _ (seq_next bS b1 (fun bS1 => ?_))
 clear hK K
 apply seqH_eff
 (focus (simp only [List.getElem?_toArray, List.getElem?_cons_succ, List.getElem?_cons_zero]; rfl))
 (focus rfl)
 intro K hK
 go_simp
 go_at_call 49
 refine (HD1.out _ (HL0.out.below (HX0.out _ bS1))).mono ?_
 rintro e w2 ⟨⟨v2, rfl, hs2⟩, b2⟩
 refine hK _ _ (seq_next bS1 b2 (fun bS2 => ?_))
 clear hK K
 have HV1 := Lib.hid (SlR.below hs1 b2)
 have HV2 := Lib.hid hs2
 clear hs1 hs2 bS1 HD0 HD1
 iterate 2 (first | (apply seqH_skip; (focus (simp only [List.getElem?_toArray, List.getElem?_cons_succ, List.getElem?_cons_zero]; rfl)); (focus rfl); simp only [Act.put, List.setIfInBounds_toArray, List.set_cons_zero, List.set_cons_succ]) | (apply seqH_take; (focus (simp only [List.getElem?_toArray, List.getElem?_cons_succ, List.getElem?_cons_zero]; rfl)); (focus rfl); (focus (intro w' hS; skip; first | (go_simp; rfl) | (go_simp; done))); simp only [Act.put, List.setIfInBounds_toArray, List.set_cons_zero, List.set_cons_succ]) | (apply seqH_pass; (focus (simp only [List.getElem?_toArray, List.getElem?_cons_succ, List.getElem?_cons_zero]; rfl)); (focus rfl); (focus assumption); simp only [Act.put, List.setIfInBounds_toArray, List.set_cons_zero, List.set_cons_succ]))
 refine seqH_nil ?_
 --TAIL
 have HH2 := Lib.hid (HX.out _ bS2)
 have BW2 := HX0.out _ bS2
 clear HX HX0 bS2 b1 b2
 have HX2 := Lib.hid (fun w' (hb : Below w2.heap.size w2 w') => HH2.out.below hb)
 have HLI2 := Lib.hid (fun w' (hb : Below w2.heap.size w2 w') => HLI.out w' (HL0.out.below (belT BW2 hb)) (HP.out.below rfl (belT BW2 hb)) (HM.out.below rfl (belT BW2 hb)))
 have HAG2 := Lib.hid (fun w' (hb : Below w2.heap.size w2 w') => HAG.out w' (HL0.out.below (belT BW2 hb)) (HP.out.below rfl (belT BW2 hb)) (HM.out.below rfl (belT BW2 hb)))
 clear HLI HAG HH2 HL0 HA0 HP HM
 go_wp2_with fail
 refine wp_region_seq [(true, 0), (true, 2), (true, 3), (false, 1), (false, 4), (true, 5), (true, 6)] (fun w' => Below w2.heap.size w2 w') (by kernel_rfl) (by kernel_rfl) (fun _ _ _ _ _ h => h) (by kernel_rfl) (by kernel_rfl) (by first | exact (Below.refl _ _).drew | exact Below.drew (by assumption)) ?_
 have bS : Below w2.heap.size w2 _ := (by first | exact Below.drew (by assumption) | exact (Below.refl _ w2).drew)
 iterate 7 (first
  | (apply seqH_skip; (focus (simp only [List.getElem?_toArray, List.getElem?_cons_succ, List.getElem?_cons_zero]; rfl)); (focus rfl); simp only [Act.put, List.setIfInBounds_toArray, List.set_cons_zero, List.set_cons_succ])
  | (apply seqH_take; (focus (simp only [List.getElem?_toArray, List.getElem?_cons_succ, List.getElem?_cons_zero]; rfl)); (focus rfl); (focus (intro w' hS; obtain ⟨hl, x0, x1, x2, x3, x4, x5, x6, x7, x8, x9, x10⟩ := HX2.out _ hS; dsimp only at x0 x1 x2 x3 x4 x5 x6 x7 x8 x9 x10; first | (go_simp; rfl) | (go_simp; done))); simp only [Act.put, List.setIfInBounds_toArray, List.set_cons_zero, List.set_cons_succ])
  | (apply seqH_pass; (focus (simp only [List.getElem?_toArray, List.getElem?_cons_succ, List.getElem?_cons_zero]; rfl)); (focus rfl); (focus assumption); simp only [Act.put, List.setIfInBounds_toArray, List.set_cons_zero, List.set_cons_succ])
  | (apply seqH_eff; (focus (simp only [List.getElem?_toArray, List.getElem?_cons_succ, List.getElem?_cons_zero]; rfl)); (focus rfl); intro K hK; go_simp; (first | (go_at_call 50; (with_reducible refine (HLI2.out _ (by assumption)).mono ?_)) | (go_at_call 51; (with_reducible refine (HAG2.out _ (by assumption)).mono ?_))); rintro e wN ⟨rfl, bN⟩; refine hK _ _ (seq_next (by assumption) bN (fun bS' => ?_)); clear hK K))
 refine seqH_nil ?_
 have bR : Below w2.heap.size w2 wN := by assumption
 have B3 := belT BW2 bR
 have HV1 := Lib.hid (HV1.out.below bR)
 have HV2 := Lib.hid (HV2.out.below bR)
 clear HX2 HLI2 HAG2
 have bA : Below wN.heap.size wN (wN.alloc (.cells #[.string ⟨#[109, 117, 115, 116, 45, 114, 101, 118, 97, 108, 105, 100, 97, 116, 101]⟩, .string ⟨#[112, 114, 111, 120, 121, 45, 114, 101, 118, 97, 108, 105, 100, 97, 116, 101]⟩, .string ⟨#[115, 45, 109, 97, 120, 97, 103, 101]⟩, .string ⟨#[110, 111, 45, 99, 97, 99, 104, 101]⟩] 9)) := (Below.refl _ _).alloc (Nat.le_refl _) _
 have hcell : ∀ k (hk : k < bnames.length), (wN.alloc (.cells #[.string ⟨#[109, 117, 115, 116, 45, 114, 101, 118, 97, 108, 105, 100, 97, 116, 101]⟩, .string ⟨#[112, 114, 111, 120, 121, 45, 114, 101, 118, 97, 108, 105, 100, 97, 116, 101]⟩, .string ⟨#[115, 45, 109, 97, 120, 97, 103, 101]⟩, .string ⟨#[110, 111, 45, 99, 97, 99, 104, 101]⟩] 9)).cell? ⟨wN.heap.size, k, none⟩ = some (.string bnames[k]) := by
  intro k hk
  have h := new_cells wN (bnames.flatMap es) 9 k (.string bnames[k]) (by rw [es_map]; simp [hk])
  have e : ((⟨wN.heap.size, 0, none⟩ : Addr).add k) = ⟨wN.heap.size, k, none⟩ := by unfold Addr.add; split <;> simp_all
  rw [e, ← bnames_cells] at h
  exact h
 have hlen : wN.heap.size < (wN.alloc (.cells #[.string ⟨#[109, 117, 115, 116, 45, 114, 101, 118, 97, 108, 105, 100, 97, 116, 101]⟩, .string ⟨#[112, 114, 111, 120, 121, 45, 114, 101, 118, 97, 108, 105, 100, 97, 116, 101]⟩, .string ⟨#[115, 45, 109, 97, 120, 97, 103, 101]⟩, .string ⟨#[110, 111, 45, 99, 97, 99, 104, 101]⟩] 9)).heap.size := by simp
 have HV1 := Lib.hid (HV1.out.below bA)
 have HV2 := Lib.hid (HV2.out.below bA)
 have B4 := belT B3 bA
 go_wp2_with fail
 generalize (wN.alloc (.cells #[.string ⟨#[109, 117, 115, 116, 45, 114, 101, 118, 97, 108, 105, 100, 97, 116, 101]⟩, .string ⟨#[112, 114, 111, 120, 121, 45, 114, 101, 118, 97, 108, 105, 100, 97, 116, 101]⟩, .string ⟨#[115, 45, 109, 97, 120, 97, 103, 101]⟩, .string ⟨#[110, 111, 45, 99, 97, 99, 104, 101]⟩] 9)) = wb at *
 have HC := Lib.hid (fun k hk w' (hb : Below wb.heap.size wb w') => (hb.cell (p := ⟨wN.heap.size, k, none⟩) hlen).trans (hcell k hk))
 clear hcell hlen bA B3 bR
 go_loopw [11, 31] (fun t i wr => ∃ k : Nat, k ≤ 4 ∧ i = .int .i64 k ∧ t = .bool ((bnames.take k).any (fun n => hasD d1 n)) ∧ Below wb.heap.size wb wr) (fun _ i _ => 4 - (intOf i).toNat)
 case atStart => exact ⟨0, by omega, rfl, rfl, Below.refl _ _⟩
 case round =>
  obtain ⟨k, hk, rfl, rfl, hbel⟩ := hrel
  by_cases hlt : k < 4
  ·have c0 := HC.out k hlt wr hbel
   have HT := Lib.hid (HBT.out k hlt)
   generalize bnames[k]'hlt = n at *
   generalize (bnames.take k).any (fun n => hasD d1 n) = bk at *
   cases bk
   ·go_wp2_with fail
    refine (HHSn.out _ n _ (HV2.out.below hbel)).mono ?_
    rintro e w3 ⟨rfl, b3⟩
    generalize hasD d1 n = hb at *
    go_wp2_with fail
    go_roundw
    case rel => exact ⟨k + 1, by omega, by go_num, by rw [HT.out]; rfl, belT hbel b3⟩
    case measure => simp [intOf]; omega
   ·go_wp2_with fail
    go_roundw
    case rel => exact ⟨k + 1, by omega, by go_num, by rw [HT.out]; rfl, hbel⟩
    case measure => simp [intOf]; omega
  ·obtain rfl : k = 4 := by omega
   rw [HB4.out]
   have B5 := belT B4 hbel
   have HV1r := Lib.hid (HV1.out.below hbel)
   have HV2r := Lib.hid (HV2.out.below hbel)
   clear HC HBT HB4 HV1 HV2 HHSn
   go_wp2_with fail
   refine (HMF.out _ _ HV1r.out).mono ?_
   rintro e w3 ⟨rfl, b3⟩
   go_wp2_with fail
   refine (HMA.out _ _ (HV1r.out.below b3)).mono ?_
   rintro e w4 ⟨rfl, b4⟩
   have B6 := belT (belT B5 b3) b4
   have HV1s := Lib.hid ((HV1r.out.below b3).below b4)
   have HV2s := Lib.hid ((HV2r.out.below b3).below b4)
   clear b3 b4 B5 HV1r HV2r
   go_wp2_with fail
   refine (HNA.out _ _ HV1s.out).mono ?_
   rintro e w5 ⟨rfl, b5⟩
   have B7 := belT B6 b5
   cases na
   ·go_wp2_with fail
    refine (HNS.out _ _ (HV2s.out.below b5)).mono ?_
    rintro e w6 ⟨rfl, b6⟩
    have B8 := belT B7 b6
    have HV1t := Lib.hid ((HV1s.out.below b5).below b6)
    clear HV1s HV2s B6 B7 b5 b6 HNA HNS
    cases ns
    ·cases ab
     ·skip
      cases fb
      ·skip
       by_cases q3 : ag < li
       ·have d3 : decide (ag < li) = true := decide_eq_true q3
        have C3 := Lib.hid (eq_true q3)
        clear q3
        go_wp2_with fail
        go_ret
        exact ⟨ret_int (by rw [HR.out]; simp [C3.out]), B8⟩
       ·have d3 : decide (ag < li) = false := decide_eq_false q3
        have C3 := Lib.hid (eq_false q3)
        clear q3
        cases bo
        ·go_wp2_with fail
         refine (HSTK.out _ _ HV1t.out).mono ?_
         rintro e wS ⟨rfl, bS5⟩
         have BS := belT B8 bS5
         cases sta
         ·skip
          go_wp2_with fail
          refine (HOC.out _ _ (HV1t.out.below bS5)).mono ?_
          rintro e wT ⟨rfl, bT⟩
          cases oc
          ·go_wp2_with fail
           go_ret
           exact ⟨ret_int (by rw [HR.out]; simp [C3.out]), belT BS bT⟩
          ·go_wp2_with fail
           go_ret
           exact ⟨ret_int (by rw [HR.out]; simp [C3.out]), belT BS bT⟩
         ·skip
          go_wp2_with fail
          go_ret
          exact ⟨ret_int (by rw [HR.out]; simp [C3.out]), BS⟩
        ·skip
         go_wp2_with fail
         refine (HOC.out _ _ HV1t.out).mono ?_
         rintro e wT ⟨rfl, bT⟩
         cases oc
         ·go_wp2_with fail
          go_ret
          exact ⟨ret_int (by rw [HR.out]; simp [C3.out]), belT B8 bT⟩
         ·go_wp2_with fail
          go_ret
          exact ⟨ret_int (by rw [HR.out]; simp [C3.out]), belT B8 bT⟩
      ·by_cases q2 : li - ag < (fn : Int)
       ·have d2 : decide (li - ag < (fn : Int)) = true := decide_eq_true q2
        have C2 := Lib.hid (eq_true q2)
        clear q2
        go_wp2_with fail
        refine (HOC.out _ _ HV1t.out).mono ?_
        rintro e wT ⟨rfl, bT⟩
        cases oc
        ·go_wp2_with fail
         go_ret
         exact ⟨ret_int (by rw [HR.out]; simp [C2.out]), belT B8 bT⟩
        ·go_wp2_with fail
         go_ret
         exact ⟨ret_int (by rw [HR.out]; simp [C2.out]), belT B8 bT⟩
       ·have d2 : decide (li - ag < (fn : Int)) = false := decide_eq_false q2
        have C2 := Lib.hid (eq_false q2)
        clear q2
        by_cases q3 : ag < li
        ·have d3 : decide (ag < li) = true := decide_eq_true q3
         have C3 := Lib.hid (eq_true q3)
         clear q3
         go_wp2_with fail
         go_ret
         exact ⟨ret_int (by rw [HR.out]; simp [C2.out, C3.out]), B8⟩
        ·have d3 : decide (ag < li) = false := decide_eq_false q3
         have C3 := Lib.hid (eq_false q3)
         clear q3
         cases bo
         ·go_wp2_with fail
          refine (HSTK.out _ _ HV1t.out).mono ?_
          rintro e wS ⟨rfl, bS5⟩
          have BS := belT B8 bS5
          cases sta
          ·skip
           go_wp2_with fail
           refine (HOC.out _ _ (HV1t.out.below bS5)).mono ?_
           rintro e wT ⟨rfl, bT⟩
           cases oc
           ·go_wp2_with fail
            go_ret
            exact ⟨ret_int (by rw [HR.out]; simp [C2.out, C3.out]), belT BS bT⟩
           ·go_wp2_with fail
            go_ret
            exact ⟨ret_int (by rw [HR.out]; simp [C2.out, C3.out]), belT BS bT⟩
          ·skip
           go_wp2_with fail
           go_ret
           exact ⟨ret_int (by rw [HR.out]; simp [C2.out, C3.out]), BS⟩
         ·skip
          go_wp2_with fail
          refine (HOC.out _ _ HV1t.out).mono ?_
          rintro e wT ⟨rfl, bT⟩
          cases oc
          ·go_wp2_with fail
           go_ret
           exact ⟨ret_int (by rw [HR.out]; simp [C2.out, C3.out]), belT B8 bT⟩
          ·go_wp2_with fail
           go_ret
           exact ⟨ret_int (by rw [HR.out]; simp [C2.out, C3.out]), belT B8 bT⟩
     ·by_cases q1 : (an : Int) < ag
      ·have d1' : decide ((an : Int) < ag) = true := decide_eq_true q1
       have C1 := Lib.hid (eq_true q1)
       clear q1
       go_wp2_with fail
       refine (HOC.out _ _ HV1t.out).mono ?_
       rintro e wT ⟨rfl, bT⟩
       cases oc
       ·go_wp2_with fail
        go_ret
        exact ⟨ret_int (by rw [HR.out]; simp [C1.out]), belT B8 bT⟩
       ·go_wp2_with fail
        go_ret
        exact ⟨ret_int (by rw [HR.out]; simp [C1.out]), belT B8 bT⟩
      ·have d1' : decide ((an : Int) < ag) = false := decide_eq_false q1
       have C1 := Lib.hid (eq_false q1)
       clear q1
       cases fb
       ·skip
        by_cases q3 : ag < li
        ·have d3 : decide (ag < li) = true := decide_eq_true q3
         have C3 := Lib.hid (eq_true q3)
         clear q3
         go_wp2_with fail
         go_ret
         exact ⟨ret_int (by rw [HR.out]; simp [C1.out, C3.out]), B8⟩
        ·have d3 : decide (ag < li) = false := decide_eq_false q3
         have C3 := Lib.hid (eq_false q3)
         clear q3
         cases bo
         ·go_wp2_with fail
          refine (HSTK.out _ _ HV1t.out).mono ?_
          rintro e wS ⟨rfl, bS5⟩
          have BS := belT B8 bS5
          cases sta
          ·skip
           go_wp2_with fail
           refine (HOC.out _ _ (HV1t.out.below bS5)).mono ?_
           rintro e wT ⟨rfl, bT⟩
           cases oc
           ·go_wp2_with fail
            go_ret
            exact ⟨ret_int (by rw [HR.out]; simp [C1.out, C3.out]), belT BS bT⟩
           ·go_wp2_with fail
            go_ret
            exact ⟨ret_int (by rw [HR.out]; simp [C1.out, C3.out]), belT BS bT⟩
          ·skip
           go_wp2_with fail
           go_ret
           exact ⟨ret_int (by rw [HR.out]; simp [C1.out, C3.out]), BS⟩
         ·skip
          go_wp2_with fail
          refine (HOC.out _ _ HV1t.out).mono ?_
          rintro e wT ⟨rfl, bT⟩
          cases oc
          ·go_wp2_with fail
           go_ret
           exact ⟨ret_int (by rw [HR.out]; simp [C1.out, C3.out]), belT B8 bT⟩
          ·go_wp2_with fail
           go_ret
           exact ⟨ret_int (by rw [HR.out]; simp [C1.out, C3.out]), belT B8 bT⟩
       ·by_cases q2 : li - ag < (fn : Int)
        ·have d2 : decide (li - ag < (fn : Int)) = true := decide_eq_true q2
         have C2 := Lib.hid (eq_true q2)
         clear q2
         go_wp2_with fail
         refine (HOC.out _ _ HV1t.out).mono ?_
         rintro e wT ⟨rfl, bT⟩
         cases oc
         ·go_wp2_with fail
          go_ret
          exact ⟨ret_int (by rw [HR.out]; simp [C1.out, C2.out]), belT B8 bT⟩
         ·go_wp2_with fail
          go_ret
          exact ⟨ret_int (by rw [HR.out]; simp [C1.out, C2.out]), belT B8 bT⟩
        ·have d2 : decide (li - ag < (fn : Int)) = false := decide_eq_false q2
         have C2 := Lib.hid (eq_false q2)
         clear q2
         by_cases q3 : ag < li
         ·have d3 : decide (ag < li) = true := decide_eq_true q3
          have C3 := Lib.hid (eq_true q3)
          clear q3
          go_wp2_with fail
          go_ret
          exact ⟨ret_int (by rw [HR.out]; simp [C1.out, C2.out, C3.out]), B8⟩
         ·have d3 : decide (ag < li) = false := decide_eq_false q3
          have C3 := Lib.hid (eq_false q3)
          clear q3
          cases bo
          ·go_wp2_with fail
           refine (HSTK.out _ _ HV1t.out).mono ?_
           rintro e wS ⟨rfl, bS5⟩
           have BS := belT B8 bS5
           cases sta
           ·skip
            go_wp2_with fail
            refine (HOC.out _ _ (HV1t.out.below bS5)).mono ?_
            rintro e wT ⟨rfl, bT⟩
            cases oc
            ·go_wp2_with fail
             go_ret
             exact ⟨ret_int (by rw [HR.out]; simp [C1.out, C2.out, C3.out]), belT BS bT⟩
            ·go_wp2_with fail
             go_ret
             exact ⟨ret_int (by rw [HR.out]; simp [C1.out, C2.out, C3.out]), belT BS bT⟩
           ·skip
            go_wp2_with fail
            go_ret
            exact ⟨ret_int (by rw [HR.out]; simp [C1.out, C2.out, C3.out]), BS⟩
          ·skip
           go_wp2_with fail
           refine (HOC.out _ _ HV1t.out).mono ?_
           rintro e wT ⟨rfl, bT⟩
           cases oc
           ·go_wp2_with fail
            go_ret
            exact ⟨ret_int (by rw [HR.out]; simp [C1.out, C2.out, C3.out]), belT B8 bT⟩
           ·go_wp2_with fail
            go_ret
            exact ⟨ret_int (by rw [HR.out]; simp [C1.out, C2.out, C3.out]), belT B8 bT⟩
    ·skip
     go_wp2_with fail
     refine (HOC.out _ _ HV1t.out).mono ?_
     rintro e wT ⟨rfl, bT⟩
     cases oc
     ·go_wp2_with fail
      go_ret
      exact ⟨ret_int (by rw [HR.out]; simp), belT B8 bT⟩
     ·go_wp2_with fail
      go_ret
      exact ⟨ret_int (by rw [HR.out]; simp), belT B8 bT⟩
   ·skip
    go_wp2_with fail
    refine (HOC.out _ _ (HV1s.out.below b5)).mono ?_
    rintro e wT ⟨rfl, bT⟩
    cases oc
    ·go_wp2_with fail
     go_ret
     exact ⟨ret_int (by rw [HR.out]; simp), belT B7 bT⟩
    ·go_wp2_with fail
     go_ret
     exact ⟨ret_int (by rw [HR.out]; simp), belT B7 bT⟩
end Fr
end Go.Proofs.YtgnblkmpoigejaaGreatDoor
namespace Go.Proofs.YtgnblkmpoigejaaGreatDoor
set_option maxRecDepth 20000
open Go.RowKit
namespace Fr
end Fr
end Go.Proofs.YtgnblkmpoigejaaGreatDoor
