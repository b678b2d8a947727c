/- ControlBack and ControlAgain: the laws' walks. -/
import Derived.Test.YtpoaffhhkmochaaCtlE
import Derived.Test.YtpoaffhhkmochaaEqDir
namespace Go.Proofs.Ytpoaffhhkmochaa
set_option maxRecDepth 20000
open Go.RowKit
theorem parse_quote (w : World) : Calls Try.prog 22 #[.string ⟨#[34]⟩] w fun e w' => e = .returned (.tuple #[.slice none 0 0, .int .i64 3]) ∧ Below w.heap.size w w' := by
  have hq : Tok.splitL (sl ⟨#[34]⟩) = .error 3 := by rfl
  refine (parse_any ⟨#[34]⟩ w (by decide)).mono fun e w' ⟨h, hb⟩ => ⟨?_, hb⟩
  rcases h with ⟨ps, ds, v, h1, _⟩ | ⟨c, _, _, h1, _, h2⟩
  · rw [hq] at h1; cases h1
  · rw [h1, ← h2 3 hq]
theorem textD_size {d : Dr} {t : ByteArray} (h : textD d = some t) : t.size ≤ 2 * (d.1.size + d.2.2.size) + 3 := by
  obtain ⟨n, hh, a⟩ := d
  obtain ⟨-, -, h3⟩ := dir_of h
  have ht := sl_len t
  dsimp only at h3 ⊢
  rcases h3 with ⟨_, _, e⟩ | ⟨_, e, _⟩ | ⟨_, _, e, _⟩
  · rw [e, sl_len] at ht; omega
  · rw [e, List.length_append, List.length_cons, sl_len, sl_len] at ht; omega
  · have := escs_len2 (sl a)
    rw [sl_len] at this
    rw [e, List.length_append, List.length_cons, sl_len] at ht
    simp only [Tok.quoteL, List.length_cons, List.length_append, List.length_nil] at ht; omega
theorem texts_len {l : List Dr} {ts : List ByteArray} (h : l.map textD = ts.map Option.some) : (joinL ts commaS).length ≤ (l.map (fun d => 2 * (d.1.size + d.2.2.size + 3))).sum := by
  refine Nat.le_trans (joinL_len ts commaS) ?_
  have hc : commaS.size = 2 := rfl
  induction l generalizing ts with
  | nil => cases ts with
    | nil => exact Nat.le_refl _
    | cons t ts => simp at h
  | cons d l ih =>
    cases ts with
    | nil => simp at h
    | cons t ts =>
      simp only [List.map_cons, List.cons.injEq, List.sum_cons] at h ⊢
      have h1 := textD_size h.1
      have h2 := ih h.2
      rw [hc] at h2 ⊢; omega
theorem sum_two {l : List Dr} : (l.map (fun d => 2 * (d.1.size + d.2.2.size + 3))).sum = 2 * (l.map (fun d => d.1.size + d.2.2.size + 3)).sum := by
  induction l with
  | nil => rfl
  | cons d l ih => simp only [List.map_cons, List.sum_cons]; omega
theorem dirD_size {p : ByteArray} {d : Dr} (h : dirD p = some d) : d.1.size ≤ p.size ∧ d.2.2.size ≤ p.size := by
  have hb : ∀ (l a b : List UInt8), cutAt 61 l = some (a, b) → a.length ≤ l.length ∧ b.length ≤ l.length := by
    intro l
    induction l with
    | nil => intro a b h; cases h
    | cons c l ih =>
      intro a b h
      unfold cutAt at h
      split at h
      · injection h with h; injection h with h1 h; subst h1; subst h; simp
      · obtain ⟨⟨x, y⟩, hx, he⟩ := Option.map_eq_some_iff.1 h
        injection he with h1 he; subst he; subst h1
        have := ih _ _ hx
        simp only [List.length_cons]; omega
  have hl : ∀ n : ByteArray, (lowT n).size = n.size := fun n => by unfold lowT; rw [mkS_size, Tok.low_len, sl_len]
  unfold dirD at h
  cases hc : cutAt 61 (sl p) with
  | none =>
    rw [hc] at h
    dsimp only at h
    split at h
    · injection h with h; subst h
      exact ⟨Nat.le_of_eq (hl p), Nat.zero_le _⟩
    · cases h
  | some ab =>
    obtain ⟨a, b⟩ := ab
    rw [hc] at h
    dsimp only at h
    have hz := hb _ _ _ hc
    rw [sl_len] at hz
    split at h
    · split at h
      · injection h with h; subst h
        dsimp only
        rw [hl, mkS_size, mkS_size]; exact hz
      · obtain ⟨u, hu, rfl⟩ := Option.map_eq_some_iff.1 h
        have h1 := (Tok.unquote_some hu).1
        have h2 := escs_ge u
        simp [Tok.quoteL] at h1
        dsimp only
        rw [hl, mkS_size, mkS_size]; omega
    · cases h
theorem mem_dirs {ps : List ByteArray} {ds : List Dr} (h : ps.map dirD = ds.map some) (n : Nat) (hp : ∀ p ∈ ps, p.size ≤ n) : ∀ d ∈ ds, d.1.size ≤ n ∧ d.2.2.size ≤ n := by
  intro d hd
  have : some d ∈ ds.map some := List.mem_map.2 ⟨d, hd, rfl⟩
  rw [← h] at this
  obtain ⟨p, hpp, hpd⟩ := List.mem_map.1 this
  have h1 := dirD_size hpd
  have h2 := hp p hpp
  omega
theorem map_back (ts : List ByteArray) : (ts.map sl).map mkS = ts := by
  rw [List.map_map]; exact (List.map_congr_left (fun x _ => mkS_sl x)).trans (List.map_id _)
theorem sum_le_mul {α : Type} (f : α → Nat) (n : Nat) : ∀ (l : List α), (∀ x ∈ l, f x ≤ n) → (l.map f).sum ≤ l.length * n
  | [], _ => by simp
  | x :: l, h => by
    have h1 := h x (by simp)
    have h2 := sum_le_mul f n l (fun y hy => h y (by simp [hy]))
    simp only [List.map_cons, List.sum_cons, List.length_cons, Nat.add_mul]; omega
set_option maxHeartbeats 1600000 in
theorem controlBack_walk (v : Value) (l : List Dr) (w : World) (h : SlR w e_sbs v l) (hb : (l.map (fun d => d.1.size + d.2.2.size + 3)).sum ≤ 1048576) :
    Calls Try.prog 6 #[v] w fun e w' => e = .returned (.bool true) ∧ Below w.heap.size w w' := by
  have hl := sum_len (fun d : Dr => d.1.size + d.2.2.size + 3) (fun _ => by omega) l
  have hz : ∀ d ∈ l, d.1.size ≤ 140737488351232 ∧ d.2.2.size ≤ 140737488351232 := fun d hd => by
    have := sum_mem (fun d : Dr => d.1.size + d.2.2.size + 3) hd; try dsimp only at this
    omega
  have HP := Lib.hid (fun w' (hw : SlR w' e_sbs v l) => print_any v l w' hw (by omega) hz (fun ts hts => by have := texts_len hts; rw [sum_two] at this; omega))
  have hll : l.length ≤ 140737488351232 := by omega
  clear hz hb hl
  have HR := Lib.hid h
  obtain ⟨A, c, hv, -⟩ := h.form
  subst hv
  clear h
  go_enter Try.func6, Try.ntmps6
  go_wp2_with fail
  refine (HP.out _ HR.out).mono ?_
  rintro e w1 ⟨ha, b1⟩
  rcases ha with ⟨ts, h1, h2, h3, rfl⟩ | ⟨cc, hc1, hc2, rfl, -⟩
  · have HS := Lib.hid (split_dirs ts (dirs_all h1) h2 h3)
    have HD := Lib.hid (dirs_read h1)
    clear h1 h2
    obtain ⟨js, hjs⟩ : ∃ js, Hid (joinS ts commaS = js) := ⟨_, rfl⟩
    rw [hjs.out] at h3 HS ⊢
    have HPA := Lib.hid (fun w => parse_any js w (by omega))
    go_wp2_with fail
    refine (parse_quote _).mono ?_
    rintro e w2 ⟨rfl, b2⟩
    go_wp2_with fail
    refine (HPA.out _).mono ?_
    rintro e w3 ⟨hp, b3⟩
    rcases hp with ⟨ps, ds, v2, q1, q2, rfl, q3⟩ | ⟨c, _, _, _, q, _⟩
    · rw [HS.out] at q1
      injection q1 with q1
      subst q1
      have hds : ds = l := by
        rw [map_back, HD.out] at q2
        exact (List.map_inj_right (fun _ _ h => Option.some.inj h)).1 q2.symm
      subst hds
      have HV := Lib.hid (SlR.of_owns q3)
      clear q2 q3
      go_wp2_with fail
      refine (eqDir_any _ v2 ds ds _ (((HR.out.below b1).below b2).below b3) HV.out hll hll).mono ?_
      rintro e w4 ⟨rfl, b4⟩
      rw [show decide (ds = ds) = true from by simp]
      go_wp2_with fail
      go_ret
      exact ⟨rfl, (belT (belT (belT b1 b2) b3) b4)⟩
    · exfalso
      refine q _ l HS.out ?_
      rw [map_back, HD.out]
  · have hne : (cc != 0) = true := by simp; omega
    go_wp2_with fail
    refine (parse_quote _).mono ?_
    rintro e w2 ⟨rfl, b2⟩
    go_wp2_with fail
    go_ret
    exact ⟨rfl, belT b1 b2⟩
set_option maxHeartbeats 1600000 in
theorem controlAgain_walk (s : ByteArray) (w : World) (hs : s.size ≤ 140737488351232) :
    Calls Try.prog 7 #[.string s] w fun e w' => e = .returned (.bool true) ∧ Below w.heap.size w w' := by
  have HPA := Lib.hid (parse_any s)
  go_enter Try.func7, Try.ntmps7
  go_wp2_with fail
  refine (HPA.out _ hs).mono ?_
  rintro e w1 ⟨ha, b1⟩
  rcases ha with ⟨ps, ds, v, h1, h2, rfl, h3⟩ | ⟨c, hc1, hc2, rfl, -⟩
  · obtain ⟨hps1, hps2, -⟩ := Tok.split_short h1
    have hsz : ∀ t ∈ ps.map mkS, t.size ≤ 1000 := by
      intro t ht
      obtain ⟨p, hp, rfl⟩ := List.mem_map.1 ht
      rw [mkS_size]; exact hps1 p hp
    have hl : ds.length ≤ 20 := by
      have := congrArg List.length h2
      simp only [List.length_map] at this; omega
    obtain ⟨ts, hts⟩ := dirs_print h2 hsz
    have hds := mem_dirs h2 1000 hsz
    have hj : (joinL ts commaS).length ≤ 140737488351232 := by
      have q1 := texts_len hts
      have q2 := sum_le_mul (fun d : Dr => 2 * (d.1.size + d.2.2.size + 3)) 5000 ds (fun d hd => by have := hds d hd; omega)
      have q3 : ds.length * 5000 ≤ 20 * 5000 := Nat.mul_le_mul_right _ hl
      omega
    have hr := SlR.of_owns h3
    have HP := Lib.hid (fun w' (hw : SlR w' e_sbs v ds) => print_any v ds w' hw (by omega) (fun d hd => by have := hds d hd; omega) (fun us hus => by
      have : us = ts := (List.map_inj_right (fun _ _ h => Option.some.inj h)).1 (hus.symm.trans hts)
      rw [this]; exact hj))
    have HT := Lib.hid hts
    have hll : ds.length ≤ 140737488351232 := by omega
    clear hts hds hj hps1 hps2 hsz hl h1 h2
    have HR := Lib.hid hr
    obtain ⟨A, c, hv, -⟩ := hr.form
    subst hv
    clear hr h3
    go_wp2_with fail
    refine (parse_quote _).mono ?_
    rintro e w2 ⟨rfl, b2⟩
    go_wp2_with fail
    refine (HP.out _ (HR.out.below b2)).mono ?_
    rintro e w3 ⟨ha, b3⟩
    rcases ha with ⟨us, h1, h2, h3, rfl⟩ | ⟨cc, hc1, hc2, rfl, hF⟩
    · have HS := Lib.hid (split_dirs us (dirs_all h1) h2 h3)
      have HD := Lib.hid (dirs_read h1)
      clear h1 h2
      obtain ⟨js, hjs⟩ : ∃ js, Hid (joinS us commaS = js) := ⟨_, rfl⟩
      rw [hjs.out] at h3 HS ⊢
      have HPB := Lib.hid (fun w => parse_any js w (by omega))
      go_wp2_with fail
      refine (HPB.out _).mono ?_
      rintro e w4 ⟨hp, b4⟩
      rcases hp with ⟨qs, es, v2, q1, q2, rfl, q3⟩ | ⟨c, _, _, _, q, _⟩
      · rw [HS.out] at q1
        injection q1 with q1
        subst q1
        have hds : es = ds := by
          rw [map_back, HD.out] at q2
          exact (List.map_inj_right (fun _ _ h => Option.some.inj h)).1 q2.symm
        subst hds
        have HV := Lib.hid (SlR.of_owns q3)
        clear q2 q3
        go_wp2_with fail
        refine (eqDir_any _ v2 es es _ (((HR.out.below b2).below b3).below b4) HV.out hll hll).mono ?_
        rintro e w5 ⟨rfl, b5⟩
        rw [show decide (es = es) = true from by simp]
        go_wp2_with fail
        go_ret
        exact ⟨rfl, (belT (belT (belT (belT b1 b2) b3) b4) b5)⟩
      · exfalso
        refine q _ ds HS.out ?_
        rw [map_back, HD.out]
    · obtain rfl := hF _ HT.out
      go_wp2_with fail
      go_ret
      exact ⟨rfl, belT (belT b1 b2) b3⟩
  · have hne : (c != 0) = true := by simp; omega
    go_wp2_with fail
    refine (parse_quote _).mono ?_
    rintro e w2 ⟨rfl, b2⟩
    go_wp2_with fail
    go_ret
    exact ⟨rfl, belT b1 b2⟩
end Go.Proofs.Ytpoaffhhkmochaa
