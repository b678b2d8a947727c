import Derived.Test.YtgjfhgcjiglfkaaGreatDoorD11
import Derived.Test.YtgjfhgcjiglfkaaGreatDoorD14
import Derived.Test.YtgjfhgcjiglfkaaGreatDoorD3
import Derived.Test.YtgjfhgcjiglfkaaGreatDoorD4
import Derived.Test.YtgjfhgcjiglfkaaGreatDoorD1
import Derived.Great.Walk
import Derived.Defers
import Derived.Test.YtgjfhgcjiglfkaaGreatDoorChecked
import Derived.Test.YtgjfhgcjiglfkaaGreatDoorD0
import Derived.Test.YtgjfhgcjiglfkaaGreatDoorD2
import Derived.Shelf.Strings.SlTrimAscii
import Derived.Lib.Replace
import Derived.Lib.CountLaws
set_option linter.unusedVariables false
set_option linter.unusedSimpArgs false
namespace Go.Proofs.YtgjfhgcjiglfkaaGreatDoor
set_option maxRecDepth 20000
open Go.RowKit
namespace Dk
def PrintX (l : List Dr) (e : Ending) : Prop :=
  (∃ ts : List ByteArray, l.map textD = ts.map some ∧ ts.length ≤ 20 ∧ (joinS ts commaS).size ≤ 1000 ∧ e = .returned (.tuple #[.string (joinS ts commaS), .int .i64 0])) ∨
  (∃ c : Int, 1 ≤ c ∧ c ≤ 3 ∧ e = .returned (.tuple #[.string ByteArray.empty, .int .i64 c]) ∧ ∀ ts : List ByteArray, l.map textD = ts.map some → c = 2 ∧ ¬ (ts.length ≤ 20 ∧ (joinS ts commaS).size ≤ 1000))
theorem some_inj {xs ys : List ByteArray} (h : xs.map some = ys.map (some : ByteArray → Option ByteArray)) : xs = ys := (List.map_inj_right (fun _ _ h => Option.some.inj h)).1 h
set_option maxHeartbeats 3200000 in
theorem printX_any (v : Value) (l : List Dr) (w : World) (h : SlR w e_sbs v l) (hl : l.length * 16 ≤ 140737488351232) (hz : ∀ d ∈ l, d.1.size ≤ 140737488351232 ∧ d.2.2.size ≤ 140737488351232)
    (hj : ∀ ts : List ByteArray, l.map textD = ts.map some → (joinL ts commaS).length ≤ 140737488351232) :
    Calls Tryz.prog 137 #[v] w fun e w' => PrintX l e ∧ Below w.heap.size w w' := by
  have H3 := Lib.hid (fun hn => h.three (fun _ => rfl) hn)
  have HJ := Lib.hid hj
  clear hj
  unfold PrintX
  obtain ⟨A, c, rfl, hc, -⟩ := h
  go_enter Tryz.func137, Tryz.ntmps137
  go_wp2_with fail
  go_loopw [4, 12] (fun o i wr => ∃ (k : Nat) (ts : List ByteArray), k ≤ l.length ∧ i = .int .i64 k ∧ (l.take k).map textD = ts.map some ∧ Owns wr w.heap.size 9 1 es o ts ∧ Below w.heap.size w wr) (fun _ i _ => l.length - (intOf i).toNat)
  case atStart => exact ⟨0, [], by omega, rfl, rfl, Owns.nil _ _ _ _ _, Below.refl _ _⟩
  case round =>
    obtain ⟨k, ts, hk, rfl, hts, hown, hbel⟩ := hrel
    have htl : ts.length = k := by have := congrArg List.length hts; simp at this; omega
    have HTS := Lib.hid hts
    clear hts
    have HO := Lib.hid hown
    obtain ⟨A2, c2, hv⟩ := hown.slice
    subst hv
    clear hown
    by_cases hlt : k < l.length
    · obtain ⟨b, off, c', he, hbb, hcell⟩ := H3.out (by omega)
      obtain ⟨rfl, rfl⟩ : A = some ⟨b, off, none⟩ ∧ c = c' := by injection he with h1 h2 h3; exact ⟨h1, h3⟩
      obtain ⟨q0, q1, q2⟩ := hcell k hlt (.string l[k].1) (.bool l[k].2.1) (.string l[k].2.2) rfl rfl rfl
      have c0 := (hbel.cell (p := ⟨b, off + k * 3, none⟩) hbb).trans q0
      have c1 := (hbel.cell (p := ⟨b, off + k * 3 + 1, none⟩) hbb).trans q1
      have c2' := (hbel.cell (p := ⟨b, off + k * 3 + 2, none⟩) hbb).trans q2
      have hT : Hid ((l.take (k + 1)).map textD = ts.map some ++ [textD l[k]]) := by show _ = _; rw [List.take_add_one, List.getElem?_eq_getElem hlt, List.map_append, HTS.out]; rfl
      have hN : Hid (textD l[k] = none → ∀ xs : List ByteArray, l.map textD = xs.map some → False) := by
        intro h xs hx
        have h1 := congrArg (fun z => z[k]?) hx
        simp only [List.getElem?_map, List.getElem?_eq_getElem hlt, Option.map_some, h] at h1
        cases hxk : xs[k]? <;> rw [hxk] at h1 <;> simp at h1
      have hzz := hz l[k] (List.getElem_mem hlt)
      clear hcell q0 q1 q2 he
      generalize l[k] = d at *
      obtain ⟨n, hh, a⟩ := d
      have hA := Lib.hid (fun w => text_any (n, hh, a) w hzz.1 hzz.2)
      clear hzz
      subst htl
      go_wp2_with fail
      refine (hA.out _).mono ?_
      rintro e w2 ⟨ha, b2⟩
      have hb12 : Below w.heap.size w w2 := (hbel.alloc hbel.size _).trans (b2.mono (by simp; have := hbel.size; omega))
      have HO2 := Lib.hid ((HO.out.alloc (.cells #[.string n, .bool hh, .string a] 86)).below b2)
      clear b2
      rcases ha with ⟨s, h1, rfl⟩ | ⟨h1, cc, hc1, hc2, rfl⟩
      · have HS : Hid ((l.take (ts.length + 1)).map textD = (ts ++ [s]).map some) := by show _ = _; rw [hT.out, h1]; simp
        clear h1
        go_wp2_with (at_builtin; go_must (refine wpList_append_owns rfl (.tmp 24) (.tmp 26) _ rfl w.heap.size 9 (.string ByteArray.empty) 1 16 es Tryz.underlying69 stringInfo rfl (by decide) _ ts rfl (HO2.out.alloc _) ⟨w2.heap.size, 0, none⟩ 1 1 [s] rfl rfl rfl (new_cells _ [.string s] _) (es_one [s]) (by simp only [maxLen]; omega) (by omega) (bel_size hb12 (Nat.le_refl _) _) ?_); intro v3 w3 hown3 hg3)
        go_roundw
        case rel => exact ⟨ts.length + 1, ts ++ [s], by omega, by go_num, HS.out, hown3, (hb12.alloc hb12.size _).grown hg3 (bel_size hb12 (Nat.le_refl _) _) (fun k hk => (HO2.out.lt k hk).1)⟩
        case measure => simp [intOf]; omega
      · have HF := Lib.hid (hN.out h1)
        clear h1
        go_wp2_with fail
        go_ret2
        exact ⟨.inr ⟨cc, hc1, hc2, rfl, fun xs hx => (HF.out xs hx).elim⟩, hb12⟩
    · subst htl
      have hE : l.take ts.length = l := List.take_of_length_le (by omega)
      have hTS : Hid (l.map textD = ts.map some) := by have := HTS.out; rw [hE] at this; exact this
      have hjl := HJ.out ts hTS.out
      have HSL := Lib.hid (SlR.of_owns HO.out)
      have hsz : (joinS ts commaS).size = (joinL ts commaS).length := mkS_size _
      rw [← hsz] at hjl
      clear hsz hE
      obtain ⟨js, hjs⟩ : ∃ js, Hid (joinS ts commaS = js) := ⟨_, rfl⟩
      have HJO : Hid (∀ w', SlR w' es (.slice A2 ts.length c2) ts → Calls Tryz.prog 37 #[.slice A2 ts.length c2, .string ⟨#[44, 32]⟩] w' fun e w'' => e = .returned (.string js) ∧ Below w'.heap.size w' w'') := by
        intro w' hs
        have := join_any (.slice A2 ts.length c2) ts commaS w' hs (by omega) (HJ.out ts hTS.out)
        rw [hjs.out] at this
        exact this
      rw [hjs.out] at hjl
      by_cases h20 : 20 < ts.length
      · have dl : decide (20 < ts.length) = true := decide_eq_true h20
        go_wp2_with fail
        refine (HJO.out _ HSL.out).mono ?_
        rintro e w2 ⟨rfl, b2⟩
        go_wp2_with fail
        go_ret2
        exact ⟨.inr ⟨2, by omega, by omega, rfl, fun xs hx => ⟨rfl, fun hn => by have hh := some_inj (hx.symm.trans hTS.out); subst hh; omega⟩⟩, hbel.trans (b2.mono hbel.size)⟩
      · have dl : decide (20 < ts.length) = false := decide_eq_false h20
        by_cases h1k : 1000 < js.size
        · have dk : decide (1000 < js.size) = true := decide_eq_true h1k
          go_wp2_with fail
          refine (HJO.out _ HSL.out).mono ?_
          rintro e w2 ⟨rfl, b2⟩
          go_wp2_with fail
          go_ret2
          exact ⟨.inr ⟨2, by omega, by omega, rfl, fun xs hx => ⟨rfl, fun hn => by have hh := some_inj (hx.symm.trans hTS.out); subst hh; have h2 := hn.2; rw [hjs.out] at h2; omega⟩⟩, hbel.trans (b2.mono hbel.size)⟩
        · have dk : decide (1000 < js.size) = false := decide_eq_false h1k
          go_wp2_with fail
          refine (HJO.out _ HSL.out).mono ?_
          rintro e w2 ⟨rfl, b2⟩
          go_wp2_with fail
          go_ret2
          exact ⟨.inl ⟨ts, hTS.out, by omega, by rw [hjs.out]; omega, by rw [hjs.out]; rfl⟩, hbel.trans (b2.mono hbel.size)⟩
def ParseX (T : TypeId) (base : Nat) (s : ByteArray) (e : Ending) (w' : World) : Prop :=
  (∃ (ps : List (List UInt8)) (ds : List Dr) (v : Value), Tok.splitL (sl s) = .ok ps ∧ (ps.map mkS).map dirD = ds.map some ∧ e = .returned (.tuple #[v, .int .i64 0]) ∧ Owns w' base T 3 e_sbs v ds) ∨
  (∃ c : Int, 1 ≤ c ∧ c ≤ 3 ∧ e = .returned (.tuple #[.slice none 0 0, .int .i64 c]) ∧ (∀ (ps : List (List UInt8)) (ds : List Dr), Tok.splitL (sl s) = .ok ps → (ps.map mkS).map dirD = ds.map some → False) ∧ (∀ c', Tok.splitL (sl s) = .error c' → c' = c) ∧ (c = 3 ∨ Tok.splitL (sl s) = .error c))
set_option maxHeartbeats 1600000 in
theorem parseX_any (s : ByteArray) (w : World) (hs : s.size ≤ 140737488351232) :
    Calls Tryz.prog 69 #[.string s] w fun e w' => ParseX 86 w.heap.size s e w' ∧ Below w.heap.size w w' := by
  have HS := Lib.hid (split_any s)
  unfold ParseX
  go_enter Tryz.func69, Tryz.ntmps69
  go_wp2_with fail
  refine (HS.out _ hs).mono ?_
  rintro e w1 ⟨hans, hb1⟩
  unfold SplitAns at hans
  cases hsp : Tok.splitL (sl s) with
  | error c =>
    rw [hsp] at hans
    dsimp only at hans
    subst hans
    have hc := split_code hsp
    have hne : ((c : Int) != 0) = true := by simp; omega
    go_wp2_with fail
    go_ret2
    exact ⟨.inr ⟨c, by omega, by omega, rfl, (fun ps ds h _ => by rw [hsp] at h; cases h), (fun c' h => by rw [hsp] at h; injection h with h; exact h.symm), .inr hsp⟩, hb1⟩
  | ok ps =>
    rw [hsp] at hans
    dsimp only at hans
    obtain ⟨v, rfl, hown⟩ := hans
    obtain ⟨hps1, hps2, -⟩ := Tok.split_short hsp
    have hr := SlR.of_owns hown
    have hsz : ∀ t ∈ ps.map mkS, t.size ≤ 1000 := by
      intro t ht
      obtain ⟨p, hp, rfl⟩ := List.mem_map.1 ht
      rw [mkS_size]; exact hps1 p hp
    have hl : (ps.map mkS).length ≤ 20 := by rw [List.length_map]; exact hps2
    have HPS : Hid (∀ (ds : List Dr) (P : Prop), ((ps.map mkS).map dirD = ds.map some → P) → ∀ (qs : List (List UInt8)), Tok.splitL (sl s) = .ok qs → (qs.map mkS).map dirD = ds.map some → P) := by
      intro ds P h qs hq hd
      rw [hsp] at hq
      injection hq with hq; subst hq; exact h hd
    have HEX : Hid (∀ ds : List Dr, (ps.map mkS).map dirD = ds.map some → ∃ qs : List (List UInt8), Tok.splitL (sl s) = .ok qs ∧ (qs.map mkS).map dirD = ds.map some) := fun ds h => ⟨ps, hsp, h⟩
    have HNE : Hid (∀ c', Tok.splitL (sl s) = .error c' → False) := by intro c' h; rw [hsp] at h; cases h
    generalize ps.map mkS = xs at *
    clear hown hsp hps1 hps2
    have HX := Lib.hid (fun (hn : 0 < xs.length) => hr.texts hn)
    obtain ⟨A, c, rfl, hcap, -⟩ := hr
    go_wp2_with fail
    go_loopw [6, 21] (fun o i wr => ∃ (k : Nat) (ds : List Dr), k ≤ xs.length ∧ i = .int .i64 k ∧ (xs.take k).map dirD = ds.map some ∧ Owns wr w1.heap.size 86 3 e_sbs o ds ∧ Below w1.heap.size w1 wr) (fun _ i _ => xs.length - (intOf i).toNat)
    case atStart => exact ⟨0, [], by omega, rfl, rfl, Owns.nil _ _ _ _ _, Below.refl _ _⟩
    case round =>
      obtain ⟨k, ds, hk, rfl, hds, hown, hbel⟩ := hrel
      have hdl : ds.length = k := by have := congrArg List.length hds; simp at this; omega
      have HDS := Lib.hid hds
      clear hds
      have HO := Lib.hid hown
      obtain ⟨A2, c2, hv⟩ := hown.slice
      subst hv
      clear hown
      by_cases hlt : k < xs.length
      · obtain ⟨b, off, c', he, _, hbb, hcell⟩ := HX.out (by omega)
        obtain ⟨rfl, rfl⟩ : A = some ⟨b, off, none⟩ ∧ c = c' := by injection he with h1 h2 h3; exact ⟨h1, h3⟩
        have c0 := (hbel.cell (p := ⟨b, off + k, none⟩) hbb).trans (hcell k hlt)
        have hT : Hid ((xs.take (k + 1)).map dirD = ds.map some ++ [dirD xs[k]]) := by show _ = _; rw [List.take_add_one, List.getElem?_eq_getElem hlt, List.map_append, HDS.out]; rfl
        have hN : Hid (dirD xs[k] = none → ∀ zs : List Dr, xs.map dirD = zs.map some → False) := by
          intro h zs hx
          have h1 := congrArg (fun z => z[k]?) hx
          simp only [List.getElem?_map, List.getElem?_eq_getElem hlt, Option.map_some, h] at h1
          cases hxk : zs[k]? <;> rw [hxk] at h1 <;> simp at h1
        have hzz := hsz xs[k] (List.getElem_mem hlt)
        clear hcell he
        generalize xs[k] = p at *
        have hA := Lib.hid (fun w => directive_any p w hzz)
        clear hzz
        subst hdl
        go_wp2_with fail
        refine (hA.out _).mono ?_
        rintro e w2 ⟨ha, b2⟩
        have hb12 : Below w1.heap.size w1 w2 := hbel.trans (b2.mono hbel.size)
        have HO2 := Lib.hid (HO.out.below b2)
        clear b2
        rcases ha with ⟨d, h1, rfl⟩ | ⟨h1, d, rfl⟩
        · have HS2 : Hid ((xs.take (ds.length + 1)).map dirD = (ds ++ [d]).map some) := by show _ = _; rw [hT.out, h1]; simp
          clear h1
          obtain ⟨n, hh, a⟩ := d
          rw [show vDr (n, hh, a) = .agg #[.string n, .bool hh, .string a] from rfl]
          have HNC : ∀ j u, [Value.string n, .bool hh, .string a][j]? = some u → ((w2.alloc (.cells #[.string n, .bool hh, .string a] 86)).alloc (.cells #[.string n, .bool hh, .string a] 86)).cell? ((⟨w2.heap.size + 1, 0, none⟩ : Addr).add j) = some u := by
            have := new_cells (w2.alloc (.cells #[.string n, .bool hh, .string a] 86)) [.string n, .bool hh, .string a] 86
            rwa [show (w2.alloc (.cells #[.string n, .bool hh, .string a] 86)).heap.size = w2.heap.size + 1 from by simp] at this
          have hb2 : Below w1.heap.size w1 (w2.alloc (.cells #[.string n, .bool hh, .string a] 86)) := hb12.alloc hb12.size _
          go_wp2_with (at_builtin; go_must (refine wpList_append_owns rfl (.tmp 32) (.tmp 34) _ rfl w1.heap.size 86 (.agg #[.string ByteArray.empty, .bool false, .string ByteArray.empty]) 3 40 e_sbs Tryz.underlying87 dirInfo rfl (by decide) _ ds rfl ((HO2.out.alloc _).alloc _) ⟨w2.heap.size + 1, 0, none⟩ 1 1 [(n, hh, a)] rfl rfl rfl HNC (sbs_one _) (by simp only [maxLen]; omega) (by omega) (bel_size hb2 (Nat.le_refl _) _) ?_); intro v3 w3 hown3 hg3)
          go_roundw
          case rel => exact ⟨ds.length + 1, ds ++ [(n, hh, a)], by omega, by go_num, HS2.out, hown3, (hb2.alloc hb2.size _).grown hg3 (bel_size hb2 (Nat.le_refl _) _) (fun k hk => (HO2.out.lt k hk).1)⟩
          case measure => simp [intOf]; omega
        · have HF := Lib.hid (hN.out h1)
          clear h1
          obtain ⟨n, hh, a⟩ := d
          rw [show vDr (n, hh, a) = .agg #[.string n, .bool hh, .string a] from rfl]
          go_wp2_with fail
          go_ret2
          exact ⟨.inr ⟨3, by omega, by omega, rfl, fun qs zs hq hz => HPS.out zs False (HF.out zs) qs hq hz, (fun c' h => (HNE.out c' h).elim), .inl rfl⟩, hb1.trans ((hb12.alloc hb12.size _).mono hb1.size)⟩
      · subst hdl
        have hE : xs.take ds.length = xs := List.take_of_length_le (by omega)
        have hTS : Hid (xs.map dirD = ds.map some) := by have := HDS.out; rw [hE] at this; exact this
        clear hE
        go_wp2_with fail
        go_ret2
        obtain ⟨qs, h1, h2⟩ := HEX.out ds hTS.out
        exact ⟨.inl ⟨qs, ds, _, h1, h2, rfl, HO.out.mono hb1.size⟩, hb1.trans (hbel.mono hb1.size)⟩
end Dk
set_option maxRecDepth 20000
open Go.RowKit Go.Shelf
namespace Dk
theorem textD_size {d : Dr} {t : ByteArray} (h : textD d = some t) : t.size ≤ 2 * (d.1.size + d.2.2.size) + 3 := by
  obtain ⟨n, hh, a⟩ := d
  obtain ⟨-, -, h3⟩ := dir_of h
  have ht := sl_len t
  dsimp only at h3 ⊢
  rcases h3 with ⟨_, _, e⟩ | ⟨_, e, _⟩ | ⟨_, _, e, _⟩
  · rw [e, sl_len] at ht; omega
  · rw [e, List.length_append, List.length_cons, sl_len, sl_len] at ht; omega
  · have := escs_len2 (sl a)
    rw [sl_len] at this
    rw [e, List.length_append, List.length_cons, sl_len] at ht
    simp only [Tok.quoteL, List.length_cons, List.length_append, List.length_nil] at ht; omega
theorem texts_len {l : List Dr} {ts : List ByteArray} (h : l.map textD = ts.map Option.some) : (joinL ts commaS).length ≤ (l.map (fun d => 2 * (d.1.size + d.2.2.size + 3))).sum := by
  refine Nat.le_trans (joinL_len ts commaS) ?_
  have hc : commaS.size = 2 := rfl
  induction l generalizing ts with
  | nil => cases ts with
    | nil => exact Nat.le_refl _
    | cons t ts => simp at h
  | cons d l ih =>
    cases ts with
    | nil => simp at h
    | cons t ts =>
      simp only [List.map_cons, List.cons.injEq, List.sum_cons] at h ⊢
      have h1 := textD_size h.1
      have h2 := ih h.2
      rw [hc] at h2 ⊢; omega
theorem dirD_size {p : ByteArray} {d : Dr} (h : dirD p = some d) : d.1.size ≤ p.size ∧ d.2.2.size ≤ p.size := by
  have hb : ∀ (l a b : List UInt8), cutAt 61 l = some (a, b) → a.length ≤ l.length ∧ b.length ≤ l.length := by
    intro l
    induction l with
    | nil => intro a b h; cases h
    | cons c l ih =>
      intro a b h
      unfold cutAt at h
      split at h
      · injection h with h; injection h with h1 h; subst h1; subst h; simp
      · obtain ⟨⟨x, y⟩, hx, he⟩ := Option.map_eq_some_iff.1 h
        injection he with h1 he; subst he; subst h1
        have := ih _ _ hx
        simp only [List.length_cons]; omega
  have hl : ∀ n : ByteArray, (lowT n).size = n.size := fun n => by unfold lowT; rw [mkS_size, Tok.low_len, sl_len]
  unfold dirD at h
  cases hc : cutAt 61 (sl p) with
  | none =>
    rw [hc] at h
    dsimp only at h
    split at h
    · injection h with h; subst h
      exact ⟨Nat.le_of_eq (hl p), Nat.zero_le _⟩
    · cases h
  | some ab =>
    obtain ⟨a, b⟩ := ab
    rw [hc] at h
    dsimp only at h
    have hz := hb _ _ _ hc
    rw [sl_len] at hz
    split at h
    · split at h
      · injection h with h; subst h
        dsimp only
        rw [hl, mkS_size, mkS_size]; exact hz
      · obtain ⟨u, hu, rfl⟩ := Option.map_eq_some_iff.1 h
        have h1 := (Tok.unquote_some hu).1
        have h2 := escs_ge u
        simp [Tok.quoteL] at h1
        dsimp only
        rw [hl, mkS_size, mkS_size]; omega
    · cases h
theorem mem_dirs {ps : List ByteArray} {ds : List Dr} (h : ps.map dirD = ds.map some) (n : Nat) (hp : ∀ p ∈ ps, p.size ≤ n) : ∀ d ∈ ds, d.1.size ≤ n ∧ d.2.2.size ≤ n := by
  intro d hd
  have : some d ∈ ds.map some := List.mem_map.2 ⟨d, hd, rfl⟩
  rw [← h] at this
  obtain ⟨p, hpp, hpd⟩ := List.mem_map.1 this
  have h1 := dirD_size hpd
  have h2 := hp p hpp
  omega
theorem sum_le_mul {α : Type} (f : α → Nat) (n : Nat) : ∀ (l : List α), (∀ x ∈ l, f x ≤ n) → (l.map f).sum ≤ l.length * n
  | [], _ => by simp
  | x :: l, h => by
    have h1 := h x (by simp)
    have h2 := sum_le_mul f n l (fun y hy => h y (by simp [hy]))
    simp only [List.map_cons, List.sum_cons, List.length_cons, Nat.add_mul]; omega
def allS {α : Type} : List (Option α) → Option (List α)
  | [] => some []
  | none :: _ => none
  | some a :: r => (allS r).map (a :: ·)
theorem allS_map {α : Type} (l : List α) : allS (l.map some) = some l := by
  induction l with
  | nil => rfl
  | cons a l ih => rw [List.map_cons, allS, ih]; rfl
theorem allS_some {α : Type} {l : List (Option α)} {xs : List α} (h : allS l = some xs) : l = xs.map some := by
  induction l generalizing xs with
  | nil => injection h with h; subst h; rfl
  | cons a l ih => cases a with
    | none => cases h
    | some a =>
      rw [allS] at h
      obtain ⟨ys, hy, rfl⟩ := Option.map_eq_some_iff.1 h
      rw [List.map_cons, ih hy]
def printD (ds : List Dr) : Except Int ByteArray := match allS (ds.map textD) with
  | none => .error 3
  | some ts => if ts.length ≤ 20 ∧ (joinS ts commaS).size ≤ 1000 then .ok (joinS ts commaS) else .error 2
def controlD (s : ByteArray) : Except Int ByteArray := match Tok.splitL (sl s) with
  | .error c => .error c
  | .ok ps => match allS ((ps.map mkS).map dirD) with
    | none => .error 3
    | some ds => printD ds
set_option maxHeartbeats 1000000 in
theorem printD_any (v : Value) (ds : List Dr) (ps : List (List UInt8)) (w : World) (h : SlR w e_sbs v ds) (h2 : (ps.map mkS).map dirD = ds.map some) (hps : ∀ p ∈ ps, p.length ≤ 1000) (hpl : ps.length ≤ 20) :
    Calls Tryz.prog 137 #[v] w fun e w' => TwoD (printD ds) e ∧ Below w.heap.size w w' := by
  have hsz : ∀ t ∈ ps.map mkS, t.size ≤ 1000 := by
    intro t ht
    obtain ⟨p, hp, rfl⟩ := List.mem_map.1 ht
    rw [mkS_size]; exact hps p hp
  have hl : ds.length ≤ 20 := by
    have := congrArg List.length h2
    simp only [List.length_map] at this; omega
  obtain ⟨ts, hts⟩ := dirs_print h2 hsz
  have hds := mem_dirs h2 1000 hsz
  have hj : (joinL ts commaS).length ≤ 140737488351232 := by
    have q1 := texts_len hts
    have q2 := sum_le_mul (fun d : Dr => 2 * (d.1.size + d.2.2.size + 3)) 5000 ds (fun d hd => by have := hds d hd; omega)
    have q3 : ds.length * 5000 ≤ 20 * 5000 := Nat.mul_le_mul_right _ hl
    omega
  refine (printX_any v ds w h (by omega) (fun d hd => by have := hds d hd; omega) (fun us hus => by
    have : us = ts := some_inj (hus.symm.trans hts)
    rw [this]; exact hj)).mono ?_
  rintro e w' ⟨ha, hb⟩
  refine ⟨?_, hb⟩
  unfold printD
  rw [hts, allS_map]
  dsimp only
  rcases ha with ⟨us, q1, q2, q3, rfl⟩ | ⟨c, q1, q2, rfl, q3⟩
  · have : us = ts := some_inj (q1.symm.trans hts)
    subst this
    rw [if_pos ⟨q2, q3⟩]
    rfl
  · obtain ⟨rfl, hn⟩ := q3 ts hts
    rw [if_neg hn]
    exact ⟨by decide, _, rfl⟩
def cmd7 (l : List ByteArray) : Except Int ByteArray := bnd (oneD l) fun s => controlD s
set_option maxHeartbeats 1000000 in
theorem cmd7_any (v : Value) (l : List ByteArray) (w : World) (h : SlR w es v l) (hz : ∀ x ∈ l, x.size ≤ 300) (ht : Tab w) :
    Calls Tryz.prog 136 #[v] w fun e w' => AnsD (cmd7 l) e ∧ Below w.heap.size w w' := by
  have HO := Lib.hid (one_any v l w h)
  have HZ := Lib.hid (fun s (hs : oneD l = .ok s) => hz s (oneD_mem hs))
  have HT := Lib.hid ht
  obtain ⟨A, c, rfl, -⟩ := h.form
  have HD : Hid (cmd7 l = bnd (oneD l) fun s => controlD s) := by show _ = _; rfl
  clear h hz ht
  generalize cmd7 l = R at *
  generalize oneD l = r at *
  generalize l.length = n at *
  go_enter Tryz.func136, Tryz.ntmps136
  go_wp2_with fail
  refine HO.out.mono ?_
  rintro e w1 ⟨h1, rfl⟩
  cases r with
  | error c =>
    have h1' : e = .panicked (badP c) := h1
    subst h1'
    have HR : Hid (R = .error c) := HD.out
    clear HO HZ HT HD h1
    go_wp2_with fail
    exact ⟨rfl, by rw [HR.out]; rfl, Below.refl _ _⟩
  | ok s =>
    have h1' : e = .returned (.string s) := h1
    subst h1'
    have HR : Hid (R = controlD s) := HD.out
    have hs := HZ.out s rfl
    clear HO HZ HD h1
    have HQ := Lib.hid (parseX_any s w (by omega))
    unfold controlD at HR
    go_wp2_with fail
    refine HQ.out.mono ?_
    rintro e w2 ⟨h2, b2⟩
    rcases h2 with ⟨ps, ds, v, k1, k2, rfl, ho⟩ | ⟨c, hc1, hc2, rfl, hno, hcs, h3⟩
    · rw [k1] at HR
      dsimp only at HR
      rw [k2, allS_map] at HR
      obtain ⟨m1, m2, -⟩ := Tok.split_short k1
      have HQ2 := Lib.hid (fun W (hb : Below w2.heap.size w2 W) => printD_any v ds ps W ((SlR.of_owns ho).below hb) k2 m1 m2)
      have HR : Hid (R = printD ds) := HR.out
      obtain ⟨A2, c2, rfl, -⟩ := (SlR.of_owns ho).form
      clear HQ HT k1 k2 m1 m2 ho
      generalize printD ds = r at *
      generalize ds.length = m at *
      go_wp2_with fail
      refine (fails_ok _).mono ?_
      rintro e w3 ⟨rfl, rfl⟩
      have HQ2 := Lib.hid (HQ2.out _ (Below.refl _ _))
      go_wp2_with fail
      refine HQ2.out.mono ?_
      rintro e w3 ⟨h3, b3⟩
      obtain ⟨t, c, rfl, h4⟩ := told_any h3
      have HTo := Lib.hid (h4 w3)
      have HB3 := Lib.hid (b2.trans (b3.mono b2.size))
      clear h4 h3 b3 HQ2
      go_wp2_with fail
      refine HTo.out.mono ?_
      rintro e w4 ⟨h4, rfl⟩
      cases r with
      | ok t2 =>
        have h4' : e = .returned (.string t2) := h4
        subst h4'
        go_wp2_with fail
        go_ret
        exact ⟨by rw [HR.out]; rfl, HB3.out⟩
      | error c2 =>
        have h4' : e = .panicked (badP c2) := h4
        subst h4'
        go_wp2_with fail
        exact ⟨rfl, by rw [HR.out]; rfl, HB3.out⟩
    · have hc : c ≠ 0 := by omega
      have HR2 : Hid (R = .error c) := by
        show _ = _
        rw [HR.out]
        rcases h3 with rfl | h3
        · cases hp : Tok.splitL (sl s) with
          | error c' => dsimp only; rw [hcs c' hp]
          | ok ps =>
            dsimp only
            cases ha : allS ((ps.map mkS).map dirD) with
            | none => rfl
            | some ds => exact (hno ps ds hp (allS_some ha)).elim
        · rw [h3]
      clear HQ HT HR hno hcs h3 hc1 hc2
      go_wp2_with fail
      refine (fails_bad c hc _).mono ?_
      rintro e w3 ⟨rfl, rfl⟩
      go_wp2_with fail
      exact ⟨rfl, by rw [HR2.out]; rfl, b2⟩
end Dk
set_option maxRecDepth 20000
namespace Dk
section
variable {P : Program} {w : World} {kt t e : TypeId} {b c : Nat} {f : ByteArray → Option Value}
theorem wpList_ins {ops : Array Oper} {rest : List Oper} {o : Oper} {a : Act} {Q : Exit → Act → World → Prop} (hg : o.guard = none) (m x v : Operand) (hop : o.op = Op.insert t m x v)
    (hm : a.eval m = .map (some b)) (h : MapS P w kt b f c) (hk : P.underlying kt = some .string) (ht : P.underlying t = some (.map kt e)) (k : ByteArray) (u : Value) (hx : a.eval x = .string k) (hv : a.eval v = u) (hks : k.size ≤ maxLen) (hc : c < maxLen)
    (hK : ∀ w', (∃ c', c' ≤ c + 1 ∧ MapS P w' kt b (fput f k u) c') → w.grownBy w' (some b) → wpList P ops Q rest (a.put o.dst undef) w') : wpList P ops Q (o :: rest) a w := by
  refine wpList_plain hg fun K' hK' => ?_
  obtain ⟨w', hrun, r1, r2⟩ := h.upd hk ht hks u hc
  unfold Oper.wp
  simp [execOp, hop, hm, hx, hv, hrun, Result.andThen]
  refine hK' _ _ (hK w' ⟨_, ?_, r1⟩ r2.grown)
  split <;> omega
end
def fnV (n : Nat) : Value := .func (.func n) #[] #[]
def cF0 : ByteArray → Option Value := fun _ => none
def cF1 : ByteArray → Option Value := fput cF0 ⟨#[113, 117, 111, 116, 101]⟩ (fnV 124)
def cF2 : ByteArray → Option Value := fput cF1 ⟨#[117, 110, 113, 117, 111, 116, 101]⟩ (fnV 128)
def cF3 : ByteArray → Option Value := fput cF2 ⟨#[115, 112, 108, 105, 116]⟩ (fnV 130)
def cF4 : ByteArray → Option Value := fput cF3 ⟨#[100, 97, 116, 101]⟩ (fnV 132)
def cF5 : ByteArray → Option Value := fput cF4 ⟨#[116, 105, 109, 101]⟩ (fnV 134)
def cF6 : ByteArray → Option Value := fput cF5 ⟨#[110, 111, 114, 109, 97, 108]⟩ (fnV 135)
def cF7 : ByteArray → Option Value := fput cF6 ⟨#[99, 111, 110, 116, 114, 111, 108]⟩ (fnV 136)
def cF8 : ByteArray → Option Value := fput cF7 ⟨#[116, 97, 103]⟩ (fnV 138)
def cF9 : ByteArray → Option Value := fput cF8 ⟨#[114, 97, 110, 103, 101]⟩ (fnV 141)
def cF10 : ByteArray → Option Value := fput cF9 ⟨#[99, 117, 116]⟩ (fnV 142)
def cF11 : ByteArray → Option Value := fput cF10 ⟨#[115, 117, 109]⟩ (fnV 144)
def cmdsF : ByteArray → Option Value := fput cF11 ⟨#[99, 114, 99]⟩ (fnV 147)
set_option maxHeartbeats 2000000 in
theorem commands_any (w : World) : Calls Tryz.prog 77 #[] w fun e w' => (∃ b c, e = .returned (.map (some b)) ∧ MapS Tryz.prog w' 9 b cmdsF c) ∧ Below w.heap.size w w' := by
  have hmm := @run_makeMap Tryz.prog
  have hm0 := MapS.made w Tryz.prog 9
  have hb0 := (Below.refl w.heap.size w).alloc (Nat.le_refl _) (.map #[] 0)
  have hc0 : 0 ≤ 0 := Nat.le_refl _
  go_enter Tryz.func77, Tryz.ntmps77
  go_wp2_with (first
    | (refine wpList_ins rfl (.tmp 1) (.const (.string ⟨#[113, 117, 111, 116, 101]⟩)) (.func 124) rfl rfl hm0 Tryz.underlying9 Tryz.underlying162 ⟨#[113, 117, 111, 116, 101]⟩ (fnV 124) rfl rfl (by decide) (by simp only [maxLen]; omega) ?_; rintro w1 ⟨c1, hc1, hm1⟩ hg1; replace hm1 : MapS Tryz.prog w1 9 w.heap.size cF1 c1 := hm1; have hb1 := hb0.grown hg1 hb0.size (fun k hk => by injection hk with hk; exact Nat.le_of_eq hk))
    | (refine wpList_ins rfl (.tmp 1) (.const (.string ⟨#[117, 110, 113, 117, 111, 116, 101]⟩)) (.func 128) rfl rfl hm1 Tryz.underlying9 Tryz.underlying162 ⟨#[117, 110, 113, 117, 111, 116, 101]⟩ (fnV 128) rfl rfl (by decide) (by simp only [maxLen]; omega) ?_; rintro w2 ⟨c2, hc2, hm2⟩ hg2; replace hm2 : MapS Tryz.prog w2 9 w.heap.size cF2 c2 := hm2; have hb2 := hb1.grown hg2 hb1.size (fun k hk => by injection hk with hk; exact Nat.le_of_eq hk))
    | (refine wpList_ins rfl (.tmp 1) (.const (.string ⟨#[115, 112, 108, 105, 116]⟩)) (.func 130) rfl rfl hm2 Tryz.underlying9 Tryz.underlying162 ⟨#[115, 112, 108, 105, 116]⟩ (fnV 130) rfl rfl (by decide) (by simp only [maxLen]; omega) ?_; rintro w3 ⟨c3, hc3, hm3⟩ hg3; replace hm3 : MapS Tryz.prog w3 9 w.heap.size cF3 c3 := hm3; have hb3 := hb2.grown hg3 hb2.size (fun k hk => by injection hk with hk; exact Nat.le_of_eq hk))
    | (refine wpList_ins rfl (.tmp 1) (.const (.string ⟨#[100, 97, 116, 101]⟩)) (.func 132) rfl rfl hm3 Tryz.underlying9 Tryz.underlying162 ⟨#[100, 97, 116, 101]⟩ (fnV 132) rfl rfl (by decide) (by simp only [maxLen]; omega) ?_; rintro w4 ⟨c4, hc4, hm4⟩ hg4; replace hm4 : MapS Tryz.prog w4 9 w.heap.size cF4 c4 := hm4; have hb4 := hb3.grown hg4 hb3.size (fun k hk => by injection hk with hk; exact Nat.le_of_eq hk))
    | (refine wpList_ins rfl (.tmp 1) (.const (.string ⟨#[116, 105, 109, 101]⟩)) (.func 134) rfl rfl hm4 Tryz.underlying9 Tryz.underlying162 ⟨#[116, 105, 109, 101]⟩ (fnV 134) rfl rfl (by decide) (by simp only [maxLen]; omega) ?_; rintro w5 ⟨c5, hc5, hm5⟩ hg5; replace hm5 : MapS Tryz.prog w5 9 w.heap.size cF5 c5 := hm5; have hb5 := hb4.grown hg5 hb4.size (fun k hk => by injection hk with hk; exact Nat.le_of_eq hk))
    | (refine wpList_ins rfl (.tmp 1) (.const (.string ⟨#[110, 111, 114, 109, 97, 108]⟩)) (.func 135) rfl rfl hm5 Tryz.underlying9 Tryz.underlying162 ⟨#[110, 111, 114, 109, 97, 108]⟩ (fnV 135) rfl rfl (by decide) (by simp only [maxLen]; omega) ?_; rintro w6 ⟨c6, hc6, hm6⟩ hg6; replace hm6 : MapS Tryz.prog w6 9 w.heap.size cF6 c6 := hm6; have hb6 := hb5.grown hg6 hb5.size (fun k hk => by injection hk with hk; exact Nat.le_of_eq hk))
    | (refine wpList_ins rfl (.tmp 1) (.const (.string ⟨#[99, 111, 110, 116, 114, 111, 108]⟩)) (.func 136) rfl rfl hm6 Tryz.underlying9 Tryz.underlying162 ⟨#[99, 111, 110, 116, 114, 111, 108]⟩ (fnV 136) rfl rfl (by decide) (by simp only [maxLen]; omega) ?_; rintro w7 ⟨c7, hc7, hm7⟩ hg7; replace hm7 : MapS Tryz.prog w7 9 w.heap.size cF7 c7 := hm7; have hb7 := hb6.grown hg7 hb6.size (fun k hk => by injection hk with hk; exact Nat.le_of_eq hk))
    | (refine wpList_ins rfl (.tmp 1) (.const (.string ⟨#[116, 97, 103]⟩)) (.func 138) rfl rfl hm7 Tryz.underlying9 Tryz.underlying162 ⟨#[116, 97, 103]⟩ (fnV 138) rfl rfl (by decide) (by simp only [maxLen]; omega) ?_; rintro w8 ⟨c8, hc8, hm8⟩ hg8; replace hm8 : MapS Tryz.prog w8 9 w.heap.size cF8 c8 := hm8; have hb8 := hb7.grown hg8 hb7.size (fun k hk => by injection hk with hk; exact Nat.le_of_eq hk))
    | (refine wpList_ins rfl (.tmp 1) (.const (.string ⟨#[114, 97, 110, 103, 101]⟩)) (.func 141) rfl rfl hm8 Tryz.underlying9 Tryz.underlying162 ⟨#[114, 97, 110, 103, 101]⟩ (fnV 141) rfl rfl (by decide) (by simp only [maxLen]; omega) ?_; rintro w9 ⟨c9, hc9, hm9⟩ hg9; replace hm9 : MapS Tryz.prog w9 9 w.heap.size cF9 c9 := hm9; have hb9 := hb8.grown hg9 hb8.size (fun k hk => by injection hk with hk; exact Nat.le_of_eq hk))
    | (refine wpList_ins rfl (.tmp 1) (.const (.string ⟨#[99, 117, 116]⟩)) (.func 142) rfl rfl hm9 Tryz.underlying9 Tryz.underlying162 ⟨#[99, 117, 116]⟩ (fnV 142) rfl rfl (by decide) (by simp only [maxLen]; omega) ?_; rintro w10 ⟨c10, hc10, hm10⟩ hg10; replace hm10 : MapS Tryz.prog w10 9 w.heap.size cF10 c10 := hm10; have hb10 := hb9.grown hg10 hb9.size (fun k hk => by injection hk with hk; exact Nat.le_of_eq hk))
    | (refine wpList_ins rfl (.tmp 1) (.const (.string ⟨#[115, 117, 109]⟩)) (.func 144) rfl rfl hm10 Tryz.underlying9 Tryz.underlying162 ⟨#[115, 117, 109]⟩ (fnV 144) rfl rfl (by decide) (by simp only [maxLen]; omega) ?_; rintro w11 ⟨c11, hc11, hm11⟩ hg11; replace hm11 : MapS Tryz.prog w11 9 w.heap.size cF11 c11 := hm11; have hb11 := hb10.grown hg11 hb10.size (fun k hk => by injection hk with hk; exact Nat.le_of_eq hk))
    | (refine wpList_ins rfl (.tmp 1) (.const (.string ⟨#[99, 114, 99]⟩)) (.func 147) rfl rfl hm11 Tryz.underlying9 Tryz.underlying162 ⟨#[99, 114, 99]⟩ (fnV 147) rfl rfl (by decide) (by simp only [maxLen]; omega) ?_; rintro w12 ⟨c12, hc12, hm12⟩ hg12; replace hm12 : MapS Tryz.prog w12 9 w.heap.size cmdsF c12 := hm12; have hb12 := hb11.grown hg12 hb11.size (fun k hk => by injection hk with hk; exact Nat.le_of_eq hk)))
  go_ret
  exact ⟨⟨_, _, rfl, hm12⟩, hb12⟩
end Dk
set_option maxRecDepth 20000
namespace Dk
def errT (c : Int) : ByteArray := ⟨#[101, 114, 114, 111, 114, 32]⟩ ++ mkS (Lib.itoa c)
set_option maxHeartbeats 2000000 in
theorem catch_bad (p : Addr) (x : Value) (c : Int) (older : List PanicEntry) (w : World) (hp : p.block < w.heap.size) (hc : w.cell? p = some x) (hz : w.frozen? p = false) (h0 : -9223372036854775808 ≤ c) (h1 : c ≤ 9223372036854775807) (h10 : HasP10 w) :
    CallsD Tryz.prog 74 #[.pointer (some p)] (.panicking ({ v := .iface 157 (.agg #[.int .i64 c]), recovered := false } :: older)) w fun e u' w' =>
      e = .returned (.tuple #[]) ∧ u' = .panicking ({ v := .iface 157 (.agg #[.int .i64 c]), recovered := true } :: older) ∧ ∃ w1, Below w.heap.size w w1 ∧ w' = w1.setCell p (.string (errT c)) := by
  refine callsD_of_wpS Tryz.func74 rfl fun c₀ cs hu => ?_
  apply wpS_seq
  apply wpS_region
  simp [wpOpsS, go_sem, recoverD, hu, Tryz.ntmps74, Exit.thenS]
  refine wpS_of_wp ?_
  show Code.wp _ _ _ ⟨#[.pointer (some p), .iface 157 (.agg #[.int .i64 c]), undef, undef, .iface 157 (.agg #[.int .i64 c]), undef, undef, undef, undef, undef, undef, undef, undef, undef, undef, undef, undef, undef, undef], []⟩ w
  have HI := Lib.hid (fun W hW => Bd.itoa_any c W h0 h1 hW)
  have hta : ∀ W, (Instr.typeAssert (.iface 157 (.agg #[.int .i64 c])) 20 157 true).run Tryz.prog W = .ok (.tuple #[.agg #[.int .i64 c], .bool true]) W := fun W => by
    kernel_rfl
  have hA := (Below.refl w.heap.size w).alloc (Nat.le_refl _) (.cells #[.int .i64 c] 157)
  have hl : (mkS (Lib.itoa c)).size ≤ 21 := by rw [mkS_size]; exact Lib.itoa_length_le c h0 h1
  obtain ⟨E, hE⟩ : ∃ E, Hid ((⟨#[101, 114, 114, 111, 114, 32]⟩ : ByteArray) ++ mkS (Lib.itoa c) = E) := ⟨_, rfl⟩
  have HR : Hid (errT c = E) := hE
  have HP1 := Lib.hid (h10.below rfl hA)
  generalize mkS (Lib.itoa c) = T at *
  go_wp2_with fail
  refine (HI.out _ HP1.out).mono ?_
  rintro e w1 ⟨rfl, b1⟩
  have B1 := hA.trans (b1.mono hA.size)
  have hc1 := (B1.cell hp).trans hc
  have hz1 := (B1.frozen hp).trans hz
  have HB := Lib.hid B1
  clear hA b1 B1 hc hz
  go_wp2_with fail
  simp [bodyPostS, results, Tryz.results74]
  exact ⟨w1, HB.out, by rw [HR.out, hE.out]⟩
theorem catch_idle (p : Addr) (w : World) :
    CallsD Tryz.prog 74 #[.pointer (some p)] .returning w fun e u' w' => e = .returned (.tuple #[]) ∧ u' = .returning ∧ w' = w := by
  refine callsD_of_wpS Tryz.func74 rfl fun c₀ cs hu => ?_
  apply wpS_seq
  apply wpS_region
  simp [wpOpsS, go_sem, recoverD, hu, Tryz.ntmps74, Exit.thenS]
  apply wpS_seq
  apply wpS_region
  simp [wpOpsS, go_sem, Exit.thenS]
  refine wpS_cond (t := false) (by simp [Act.eval]) ?_
  simp only [Bool.false_eq_true, if_false]
  refine wpS_of_wp (wp_skip ?_)
  cases c₀
  simp_all [bodyPostS, results, Tryz.results74]
end Dk
end Go.Proofs.YtgjfhgcjiglfkaaGreatDoor
namespace Go.Proofs.YtgjfhgcjiglfkaaGreatDoor
open Go.RowKit
namespace Spn
def numB (n : Int) : Bool := decide (0 ≤ n) && decide (n ≤ 99999)
def wantB (d : Int × Int) : Bool := if d.1 == -1 then numB d.2 else if d.2 == -1 then numB d.1 else numB d.1 && numB d.2 && decide (d.1 ≤ d.2)
def res1 (size : Int) (d : Int × Int) : Int × Int := if d.1 < 0 then ((if 0 < size - d.2 then size - d.2 else 0), size) else if d.2 < 0 then (d.1, size) else (d.1, if size < d.2 + 1 then size else d.2 + 1)
def someB (d : Int × Int) : Bool := decide (d.1 < d.2)
def resL (l : List (Int × Int)) (size : Int) : List (Int × Int) := (l.map (res1 size)).filter someB
def resolve (l : List (Int × Int)) (size : Int) : Except Int (List (Int × Int)) :=
  if l = [] ∨ l.any (fun d => !wantB d) = true ∨ size < 0 then .error 1 else if 20 < l.length then .error 2 else if resL l size = [] then .error 11 else .ok (resL l size)
theorem numB_bounds {n : Int} (h : numB n = true) : 0 ≤ n ∧ n ≤ 99999 := by simpa [numB] using h
theorem wantB_bounds {d : Int × Int} (h : wantB d = true) : -1 ≤ d.1 ∧ d.1 ≤ 99999 ∧ -1 ≤ d.2 ∧ d.2 ≤ 99999 ∧ (d.1 < 0 → 0 ≤ d.2) := by
  unfold wantB at h
  split at h
  · rename_i h1; have := numB_bounds h; simp at h1; omega
  · split at h
    · rename_i h1 h2; have := numB_bounds h; simp at h2; omega
    · simp only [Bool.and_eq_true] at h
      have := numB_bounds h.1.1; have := numB_bounds h.1.2; omega
theorem resL_take {l : List (Int × Int)} {size : Int} {k : Nat} (hlt : k < l.length) : resL (l.take (k + 1)) size = resL (l.take k) size ++ (if someB (res1 size l[k]) then [res1 size l[k]] else []) := by
  unfold resL
  rw [List.take_add_one, List.getElem?_eq_getElem hlt, List.map_append, List.filter_append]
  simp only [Option.toList_some, List.map_cons, List.map_nil, List.filter_cons, List.filter_nil]
theorem resL_yes {l : List (Int × Int)} {size : Int} {k : Nat} {F T : Int} (hlt : k < l.length) (h1 : res1 size l[k] = (F, T)) (h2 : F < T) : resL (l.take (k + 1)) size = resL (l.take k) size ++ [(F, T)] := by
  rw [resL_take hlt, h1, if_pos (by simpa [someB] using h2)]
theorem resL_no {l : List (Int × Int)} {size : Int} {k : Nat} {F T : Int} (hlt : k < l.length) (h1 : res1 size l[k] = (F, T)) (h2 : ¬ F < T) : resL (l.take (k + 1)) size = resL (l.take k) size := by
  rw [resL_take hlt, h1, if_neg (by simpa [someB] using h2), List.append_nil]
end Spn
theorem isNumber_any (n : Int) (w : World) :
    Calls Tryz.prog 317 #[.int .i64 n] w fun e w' => e = .returned (.bool (Spn.numB n)) ∧ w = w' := by
  go_enter Tryz.func317, Tryz.ntmps317
  go_wp2
  all_goals
    go_ret
    exact ⟨ret_bool (by unfold Spn.numB; simp; try omega), rfl⟩
set_option maxHeartbeats 400000 in
theorem isWant_any (a b : Int) (w : World) :
    Calls Tryz.prog 292 #[.agg #[.int .i64 a, .int .i64 b]] w fun e w' => e = .returned (.bool (Spn.wantB (a, b))) ∧ Below w.heap.size w w' := by
  cases ha : (a == -1)
  · cases hb : (b == -1)
    · cases hn : Spn.numB a
      all_goals
        have HN := Lib.hid hn
        have H1 := Lib.hid (isNumber_any a)
        rw [hn] at H1
        clear hn
        go_enter Tryz.func292, Tryz.ntmps292
        go_wp2_with fail
        refine (H1.out _).mono ?_
        rintro e w' ⟨rfl, rfl⟩
        go_wp2_with (first | (refine (isNumber_any b _).mono ?_; rintro e w' ⟨rfl, rfl⟩))
        all_goals
          go_ret
          refine ⟨ret_bool ?_, by go_grown⟩
          unfold Spn.wantB
          simp only [ha, hb, HN.out, Bool.false_eq_true, if_false]
          simp_all
    · have HB := Lib.hid hb
      go_enter Tryz.func292, Tryz.ntmps292
      go_wp2_with fail
      refine (isNumber_any a _).mono ?_
      rintro e w' ⟨rfl, rfl⟩
      go_wp2_with fail
      go_ret
      exact ⟨ret_bool (by unfold Spn.wantB; simp only [ha, HB.out, Bool.false_eq_true, if_false, if_true]), by go_grown⟩
  · go_enter Tryz.func292, Tryz.ntmps292
    go_wp2_with fail
    refine (isNumber_any b _).mono ?_
    rintro e w' ⟨rfl, rfl⟩
    go_wp2_with fail
    go_ret
    exact ⟨ret_bool (by unfold Spn.wantB; simp only [ha, if_true]), by go_grown⟩
theorem check1_any (a b : Int) (w : World) :
    Calls Tryz.prog 294 #[.agg #[.int .i64 a, .int .i64 b]] w fun e w' => e = .returned (.bool (!Spn.wantB (a, b))) ∧ Below w.heap.size w w' := by
  go_enter Tryz.func294, Tryz.ntmps294
  go_wp2_with fail
  refine (isWant_any a b _).mono ?_
  rintro e w1 ⟨rfl, b1⟩
  go_wp2_with fail
  go_ret
  exact ⟨rfl, ((Below.refl _ _).alloc (Nat.le_refl _) _).trans (b1.mono (by simp))⟩
set_option maxHeartbeats 800000 in
theorem indexWant_any (v : Value) (l : List (Int × Int)) (w : World) (h : SlR w e_ii v l) (hl : l.length ≤ 140737488351232) :
    Calls Tryz.prog 318 #[v, .func (.func 294) #[] #[]] w fun e w' => ((l.any (fun d => !Spn.wantB d) = true ∧ ∃ k : Nat, k < l.length ∧ e = .returned (.int .i64 k)) ∨ (l.any (fun d => !Spn.wantB d) = false ∧ e = .returned (.int .i64 (-1)))) ∧ Below w.heap.size w w' := by
  have h2 := Lib.hid (fun hn => h.two (fun _ => rfl) hn)
  obtain ⟨A, c, rfl, hc, -⟩ := h
  go_enter Tryz.func318, Tryz.ntmps318
  go_wp2_with fail
  go_loopw [8] (fun i wr => ∃ k : Nat, k ≤ l.length ∧ i = .int .i64 k ∧ (l.take k).any (fun d => !Spn.wantB d) = false ∧ Below w.heap.size w wr) (fun i _ => l.length - (intOf i).toNat)
  case atStart => exact ⟨0, by omega, rfl, rfl, Below.refl _ _⟩
  case round =>
    obtain ⟨k, hk, rfl, hN, hbel⟩ := hrel
    have HN := Lib.hid hN
    clear hN
    by_cases hlt : k < l.length
    · obtain ⟨b, o, c', he, hb, hcell⟩ := h2.out (by omega)
      obtain ⟨rfl, rfl⟩ : A = some ⟨b, o, none⟩ ∧ c = c' := by injection he with h1 h2 h3; exact ⟨h1, h3⟩
      obtain ⟨q0, q1⟩ := hcell k hlt (.int .i64 l[k].1) (.int .i64 l[k].2) rfl rfl
      have c0 := (hbel.cell (p := ⟨b, o + k * 2, none⟩) hb).trans q0
      have c1 := (hbel.cell (p := ⟨b, o + k * 2 + 1, none⟩) hb).trans q1
      clear hcell h2 q0 q1 he
      have HT : Hid ((l.take (k + 1)).any (fun d => !Spn.wantB d) = !Spn.wantB l[k]) := by
        show _ = _; rw [List.take_add_one, List.getElem?_eq_getElem hlt, List.any_append, HN.out]; simp
      cases hq : Spn.wantB l[k]
      · have HA : Hid (l.any (fun d => !Spn.wantB d) = true) := by
          show _ = _; rw [List.any_eq_true]; exact ⟨l[k], List.getElem_mem hlt, by rw [hq]; rfl⟩
        have HQ := Lib.hid hq
        clear hq
        go_wp2_with fail
        refine (check1_any l[k].1 l[k].2 _).mono ?_
        rintro e w1 ⟨rfl, b1⟩
        rw [HQ.out]
        go_wp2_with fail
        go_ret
        exact ⟨.inl ⟨HA.out, k, hlt, rfl⟩, hbel.trans (b1.mono hbel.size)⟩
      · have HQ := Lib.hid hq
        clear hq
        go_wp2_with fail
        refine (check1_any l[k].1 l[k].2 _).mono ?_
        rintro e w1 ⟨rfl, b1⟩
        rw [HQ.out]
        go_wp2_with fail
        go_roundw
        case rel => exact ⟨k + 1, by omega, by go_num, by rw [HT.out, HQ.out]; rfl, hbel.trans (b1.mono hbel.size)⟩
        case measure => simp [intOf]; omega
    · have HA : Hid (l.any (fun d => !Spn.wantB d) = false) := by show _ = _; have := HN.out; rwa [List.take_of_length_le (by omega)] at this
      go_wp2_with fail
      go_ret
      exact ⟨.inr ⟨HA.out, rfl⟩, hbel⟩
theorem containsWant_any (v : Value) (l : List (Int × Int)) (w : World) (h : SlR w e_ii v l) (hl : l.length ≤ 140737488351232) :
    Calls Tryz.prog 293 #[v, .func (.func 294) #[] #[]] w fun e w' => e = .returned (.bool (l.any (fun d => !Spn.wantB d))) ∧ Below w.heap.size w w' := by
  go_enter Tryz.func293, Tryz.ntmps293
  go_wp2_with fail
  refine (indexWant_any v l _ h hl).mono ?_
  rintro e w1 ⟨ha, b1⟩
  rcases ha with ⟨hm, k, hk, rfl⟩ | ⟨hm, rfl⟩
  all_goals
    have HM := Lib.hid hm
    clear hm
    go_wp2_with fail
    go_ret
    exact ⟨ret_bool (by rw [HM.out]; try simp), b1⟩
def Spn.checkI (l : List (Int × Int)) : Int := if l = [] ∨ l.any (fun d => !Spn.wantB d) = true then 1 else 0
theorem checkWant_any (v : Value) (l : List (Int × Int)) (w : World) (h : SlR w e_ii v l) (hl : l.length ≤ 140737488351232) :
    Calls Tryz.prog 259 #[v] w fun e w' => e = .returned (.int .i64 (Spn.checkI l)) ∧ Below w.heap.size w w' := by
  have C := Lib.hid (containsWant_any v l w h hl)
  obtain ⟨A, c, rfl, hc, -⟩ := h
  by_cases h0 : l = []
  · have HF : Hid (Spn.checkI l = 1) := if_pos (.inl h0)
    subst h0
    go_enter Tryz.func259, Tryz.ntmps259
    go_wp2_with fail
    go_ret
    exact ⟨ret_int HF.out.symm, Below.refl _ _⟩
  · have h1 : (((l.length : Nat) : Int) == 0) = false := by
      rw [beq_eq_false_iff_ne]; intro h; exact h0 (List.eq_nil_of_length_eq_zero (by omega))
    cases hq : l.any (fun d => !Spn.wantB d)
    all_goals
      have C' := C.out
      rw [hq] at C'
      have D := Lib.hid C'
      clear C'
    · have HF : Hid (Spn.checkI l = 0) := by
        show _ = _; unfold Spn.checkI; rw [if_neg]; rw [hq]; simp [h0]
      clear hq h0
      go_enter Tryz.func259, Tryz.ntmps259
      go_wp2_with fail
      refine D.out.mono ?_
      rintro e w1 ⟨rfl, b1⟩
      go_wp2_with fail
      go_ret
      exact ⟨ret_int HF.out.symm, b1⟩
    · have HF : Hid (Spn.checkI l = 1) := by
        show _ = _; unfold Spn.checkI; rw [hq, if_pos (.inr rfl)]
      clear hq h0
      go_enter Tryz.func259, Tryz.ntmps259
      go_wp2_with fail
      refine D.out.mono ?_
      rintro e w1 ⟨rfl, b1⟩
      go_wp2_with fail
      go_ret
      exact ⟨ret_int HF.out.symm, b1⟩
def ResAns (T : TypeId) (base : Nat) (l : List (Int × Int)) (size : Int) (e : Ending) (w' : World) : Prop :=
  match Spn.resolve l size with
  | .error c => e = .returned (.tuple #[.slice none 0 0, .int .i64 c])
  | .ok out => ∃ v, e = .returned (.tuple #[v, .int .i64 0]) ∧ Owns w' base T 2 e_ii v out
theorem spanInfo : ElemInfo Tryz.prog 279 (.agg #[.int .i64 0, .int .i64 0]) 2 16 := by unfold ElemInfo; kernel_rfl
theorem eii_one (l : List (Int × Int)) : ∀ u ∈ l.flatMap e_ii, u.oneCell' = true := by
  intro u hu
  obtain ⟨d, _, hd⟩ := List.mem_flatMap.1 hu
  simp only [e_ii, List.mem_cons, List.not_mem_nil, or_false] at hd
  rcases hd with rfl | rfl <;> rfl
theorem new_ii (w : World) (F T : Int) (t : TypeId) (b : Nat) (hb : b = w.heap.size) : ∀ j u, ([(F, T)].flatMap e_ii)[j]? = some u → (w.alloc (.cells #[.int .i64 F, .int .i64 T] t)).cell? ((⟨b, 0, none⟩ : Addr).add j) = some u := by
  subst hb
  exact new_cells w [.int .i64 F, .int .i64 T] t
theorem int_mx (x : Int) : max 0 x = if 0 < x then x else 0 := by split <;> omega
theorem int_mn (x y : Int) : min x y = if y < x then y else x := by split <;> omega
set_option maxRecDepth 8000 in
set_option maxHeartbeats 1600000 in
theorem resolve_any (v : Value) (l : List (Int × Int)) (size : Int) (w : World) (h : SlR w e_ii v l) (hl : l.length ≤ 140737488351232) (hz : size ≤ 9223372036854775807) (hz' : -9223372036854775808 ≤ size) :
    Calls Tryz.prog 201 #[v, .int .i64 size] w fun e w' => ResAns 279 w.heap.size l size e w' ∧ Below w.heap.size w w' := by
  have HR := Lib.hid h
  obtain ⟨A, c, rfl, hc, -⟩ := h
  go_enter Tryz.func201, Tryz.ntmps201
  go_wp2_with fail
  refine (checkWant_any _ l _ HR.out hl).mono ?_
  rintro e w1 ⟨rfl, b1⟩
  by_cases hbad : Spn.checkI l = 1 ∨ size < 0
  · have HE : Hid (Spn.resolve l size = .error 1) := by
      show _ = _; unfold Spn.resolve; rw [if_pos]
      rcases hbad with h | h
      · unfold Spn.checkI at h; split at h
        · rename_i h'; rcases h' with h' | h'
          · exact .inl h'
          · exact .inr (.inl h')
        · omega
      · exact .inr (.inr h)
    by_cases hc1 : Spn.checkI l = 1
    · rw [hc1]
      clear hbad hc1
      go_wp2_with fail
      go_ret2
      exact ⟨by unfold ResAns; rw [HE.out]; rfl, b1⟩
    · have hc0 : Spn.checkI l = 0 := by unfold Spn.checkI at hc1 ⊢; split at hc1 <;> simp_all
      have hs : size < 0 := hbad.resolve_left hc1
      rw [hc0]
      clear hbad hc1 hc0
      go_wp2_with fail
      go_ret2
      exact ⟨by unfold ResAns; rw [HE.out]; rfl, b1⟩
  · have hc0 : Spn.checkI l = 0 := by unfold Spn.checkI at hbad ⊢; split at hbad <;> simp_all
    have hs : 0 ≤ size := by omega
    have hgood : l ≠ [] ∧ l.any (fun d => !Spn.wantB d) = false := by
      unfold Spn.checkI at hc0; split at hc0
      · omega
      · rename_i h; simp only [not_or, Bool.not_eq_true] at h; exact h
    rw [hc0]
    clear hbad hc0
    by_cases h20 : 20 < l.length
    · have HE : Hid (Spn.resolve l size = .error 2) := by
        show _ = _; unfold Spn.resolve; rw [if_neg (by simp only [hgood.2, Bool.false_eq_true, false_or, not_or]; exact ⟨hgood.1, by omega⟩), if_pos h20]
      clear hgood
      go_wp2_with fail
      go_ret2
      exact ⟨by unfold ResAns; rw [HE.out]; rfl, b1⟩
    · have HE : Hid (Spn.resolve l size = if Spn.resL l size = [] then .error 11 else .ok (Spn.resL l size)) := by
        show _ = _; unfold Spn.resolve; rw [if_neg (by simp only [hgood.2, Bool.false_eq_true, false_or, not_or]; exact ⟨hgood.1, by omega⟩), if_neg h20]
      have HG := Lib.hid hgood
      clear hgood
      go_wp2_with fail
      go_loopw [6, 22] (fun u4 i wr => ∃ k : Nat, k ≤ l.length ∧ i = .int .i64 k ∧ Owns wr w1.heap.size 279 2 e_ii u4 (Spn.resL (l.take k) size) ∧ Below w1.heap.size w1 wr) (fun u4 i _ => l.length - (intOf i).toNat)
      case atStart => exact ⟨0, by omega, rfl, Owns.nil _ _ _ _ _, Below.refl _ _⟩
      case round =>
        obtain ⟨k, hk, rfl, hown, hbel⟩ := hrel
        by_cases hlt : k < l.length
        · obtain ⟨b, o, c', he, hb, hcell⟩ := HR.out.two (fun _ => rfl) (by omega)
          obtain ⟨rfl, rfl⟩ : A = some ⟨b, o, none⟩ ∧ c = c' := by injection he with h1 h2 h3; exact ⟨h1, h3⟩
          obtain ⟨q0, q1⟩ := hcell k hlt (.int .i64 l[k].1) (.int .i64 l[k].2) rfl rfl
          have hb1 : b < w1.heap.size := Nat.lt_of_lt_of_le hb b1.size
          have c0 := (hbel.cell (p := ⟨b, o + k * 2, none⟩) hb1).trans ((b1.cell (p := ⟨b, o + k * 2, none⟩) hb).trans q0)
          have c1 := (hbel.cell (p := ⟨b, o + k * 2 + 1, none⟩) hb1).trans ((b1.cell (p := ⟨b, o + k * 2 + 1, none⟩) hb).trans q1)
          clear hcell q0 q1 he
          have hw : Spn.wantB l[k] = true := by
            have := HG.out.2; rw [List.any_eq_false] at this; simpa using this l[k] (List.getElem_mem hlt)
          have HB := Lib.hid (Spn.wantB_bounds hw)
          obtain ⟨hf0, hf1, hl0, hl1, hneg⟩ := HB.out
          have HT := Lib.hid (Spn.resL_take (size := size) hlt)
          have hsz0 := hbel.size
          have HY := fun F T h1 h2 => Lib.hid (Spn.resL_yes (l := l) (size := size) (k := k) (F := F) (T := T) hlt h1 h2)
          have HNo := fun F T h1 h2 => Lib.hid (Spn.resL_no (l := l) (size := size) (k := k) (F := F) (T := T) hlt h1 h2)
          have R1 : l[k].1 < 0 → Hid (Spn.res1 size l[k] = (if 0 < wrap64 (size - l[k].2) then wrap64 (size - l[k].2) else 0, size)) := by
            intro h
            show _ = _
            have hwr : wrap64 (size - l[k].2) = size - l[k].2 := by have := hneg h; unfold wrap64; omega
            unfold Spn.res1; rw [if_pos h, hwr]
          have R2 : 0 ≤ l[k].1 → l[k].2 < 0 → Hid (Spn.res1 size l[k] = (l[k].1, size)) := by
            intro h h'
            show _ = _
            unfold Spn.res1; rw [if_neg (by omega), if_pos h']
          have R3 : 0 ≤ l[k].1 → 0 ≤ l[k].2 → Hid (Spn.res1 size l[k] = (l[k].1, if size < l[k].2 + 1 then size else l[k].2 + 1)) := by
            intro h h'
            show _ = _
            unfold Spn.res1; rw [if_neg (by omega), if_neg (by omega)]
          clear hneg hs hf0 hf1
          have hlen20 : (Spn.resL (l.take k) size).length ≤ 20 := by
            unfold Spn.resL
            refine Nat.le_trans (List.length_filter_le _ _) ?_
            simp; omega
          go_wp2_with (at_builtin; go_must (refine wpList_append_owns rfl (.tmp 54) (.tmp 56) _ rfl w1.heap.size 279 (.agg #[.int .i64 0, .int .i64 0]) 2 16 e_ii Tryz.underlying275 spanInfo rfl (by decide) _ _ rfl (((hown.alloc _).alloc _).alloc _) ⟨_, 0, none⟩ 1 1 [(_, _)] rfl rfl rfl (new_ii _ _ _ _ _ (by simp)) (eii_one [_]) (by simp only [maxLen]; omega) (by omega) (by simp; omega) ?_); intro v2 w2 hown2 hg2)
          all_goals
            try simp only [int_mx, int_mn] at *
            go_roundw
            case measure => simp [intOf]; omega
          · exact ⟨k + 1, by omega, by go_num, by rw [(HY _ _ (R1 (by assumption)).out (by assumption)).out]; exact hown2, bel_append0 (((hbel.alloc hbel.size _).alloc (by simp; omega) _).alloc (by simp; omega) _) (Nat.le_refl _) (((hown.alloc _).alloc _).alloc _) hg2⟩
          · exact ⟨k + 1, by omega, by go_num, by rw [(HNo _ _ (R1 (by assumption)).out (Int.not_lt.mpr (by assumption))).out]; exact (hown.alloc _).alloc _, (hbel.alloc hbel.size _).alloc (by simp; omega) _⟩
          · exact ⟨k + 1, by omega, by go_num, by rw [(HY _ _ (R2 (by assumption) (by assumption)).out (by assumption)).out]; exact hown2, bel_append0 (((hbel.alloc hbel.size _).alloc (by simp; omega) _).alloc (by simp; omega) _) (Nat.le_refl _) (((hown.alloc _).alloc _).alloc _) hg2⟩
          · exact ⟨k + 1, by omega, by go_num, by rw [(HNo _ _ (R2 (by assumption) (by assumption)).out (Int.not_lt.mpr (by assumption))).out]; exact (hown.alloc _).alloc _, (hbel.alloc hbel.size _).alloc (by simp; omega) _⟩
          · exact ⟨k + 1, by omega, by go_num, by rw [(HY _ _ (R3 (by assumption) (by assumption)).out (by assumption)).out]; exact hown2, bel_append0 (((hbel.alloc hbel.size _).alloc (by simp; omega) _).alloc (by simp; omega) _) (Nat.le_refl _) (((hown.alloc _).alloc _).alloc _) hg2⟩
          · exact ⟨k + 1, by omega, by go_num, by rw [(HNo _ _ (R3 (by assumption) (by assumption)).out (Int.not_lt.mpr (by assumption))).out]; exact (hown.alloc _).alloc _, (hbel.alloc hbel.size _).alloc (by simp; omega) _⟩
        · have ht : l.take k = l := List.take_of_length_le (by omega)
          rw [ht] at hown
          clear ht
          have HO := Lib.hid hown
          have HW := Lib.hid (b1.trans (hbel.mono b1.size))
          by_cases hnil : Spn.resL l size = []
          · have HE' : Hid (Spn.resolve l size = .error 11) := by show _ = _; rw [HE.out, if_pos hnil]
            obtain ⟨n, hn, hv⟩ : ∃ n A c, n = 0 ∧ u6 = .slice A n c := by
              rcases hown.form with ⟨hv, ha⟩ | ⟨g, cap, hv⟩
              · exact ⟨0, none, 0, rfl, hv⟩
              · exact ⟨_, _, _, by rw [hnil]; rfl, hv⟩
            obtain ⟨c2, rfl, rfl⟩ := hv
            clear hown hnil
            go_wp2_with fail
            go_ret2
            exact ⟨by unfold ResAns; rw [HE'.out]; rfl, HW.out⟩
          · have HE' : Hid (Spn.resolve l size = .ok (Spn.resL l size)) := by show _ = _; rw [HE.out, if_neg hnil]
            rcases hown.form with ⟨hv, ha⟩ | ⟨g, cap, rfl⟩
            · exact absurd ha hnil
            · have h1 : (((Spn.resL l size).length : Int) == 0) = false := by
                rw [beq_eq_false_iff_ne]; intro h; exact hnil (List.eq_nil_of_length_eq_zero (by omega))
              clear hown hnil
              go_wp2_with fail
              go_ret2
              exact ⟨by unfold ResAns; rw [HE'.out]; exact ⟨_, rfl, HO.out.mono b1.size⟩, HW.out⟩
namespace Spc
end Spc
namespace Spc
theorem below_setRowC {B : Nat} {a w : World} (h : Below B a w) {g : Nat} (hg : B ≤ g) (cs : Array Value) : Below B a (w.setRow g cs) :=
  h.trans ⟨rfl, rfl, rfl, by simp, fun k hk => setRow_other _ _ _ _ (by omega)⟩
end Spc
theorem blank_set (c : UInt8) : ([32, 9] : List UInt8).contains c = Tok.blankB c := by
  unfold Tok.blankB
  simp only [List.contains_cons, List.contains_nil, Bool.or_false]
theorem trim_swap (l : List UInt8) : ((l.reverse.dropWhile Tok.blankB).reverse).dropWhile Tok.blankB = ((l.dropWhile Tok.blankB).reverse.dropWhile Tok.blankB).reverse := by
  induction l with
  | nil => rfl
  | cons c l ih =>
    cases hc : Tok.blankB c
    · have e1 : ([c] : List UInt8).dropWhile Tok.blankB = [c] := Tok.dw_cons_false hc
      rw [Tok.dw_cons_false hc, List.reverse_cons, List.dropWhile_append, e1]
      split
      · simp [hc]
      · rw [List.reverse_append, List.reverse_singleton, List.singleton_append, Tok.dw_cons_false hc]
    · have e1 : ([c] : List UInt8).dropWhile Tok.blankB = [] := by rw [Tok.dw_cons_true hc]; rfl
      rw [Tok.dw_cons_true hc, ← ih, List.reverse_cons, List.dropWhile_append, e1]
      split
      · rename_i h
        rw [List.isEmpty_iff.1 h]
        try rfl
      · rw [List.reverse_append, List.reverse_singleton, List.singleton_append, Tok.dw_cons_true hc]
theorem trimS_blank (l : List UInt8) : Lib.trimS l [32, 9] = Tok.trimL l := by
  have h : (fun c : UInt8 => ([32, 9] : List UInt8).contains c) = Tok.blankB := funext blank_set
  unfold Lib.trimS Lib.trimLeftS Lib.trimRightS Tok.trimL
  rw [h]
  exact trim_swap l
theorem strTrim_any (s : ByteArray) (w : World) (hs : s.size ≤ 140737488351232) :
    Calls Tryz.prog 290 #[.string s, .string ⟨#[32, 9]⟩] w fun e w' => e = .returned (.string (mkS (Tok.trimL (sl s)))) ∧ Below w.heap.size w w' := by
  refine (Any.strings_Trim_laid Tryz.lays160 (by kernel_rfl) s ⟨#[32, 9]⟩ w (by omega) (by decide) (ascii_of_all (by decide))).mono fun e w' ⟨he, hb⟩ => ⟨?_, hb⟩
  rw [he, show s.data.toList = sl s from rfl, show (⟨#[32, 9]⟩ : ByteArray).data.toList = [32, 9] from rfl, trimS_blank]
  rfl
set_option maxRecDepth 20000
namespace Spw
open Spc
def numL (a : Int) : List UInt8 := if a < 0 then [] else Lib.itoa a
def wL (a b : Int) : List UInt8 := numL a ++ 45 :: numL b
theorem wL_cut {a b : Int} (h : Spn.wantB (a, b) = true) : cutC 45 (wL a b) = some (numL a, numL b) := by
  refine cutC_some rfl ?_
  unfold numL
  split
  · simp
  · rename_i h0
    obtain ⟨h1, h2, _⟩ := Spn.wantB_bounds h
    exact not_in (by unfold nB; simp; omega) (by decide)
theorem want_nums {a b : Int} (h : Spn.wantB (a, b) = true) : (a = -1 ∧ nB b = true) ∨ (nB a = true ∧ b = -1) ∨ (nB a = true ∧ nB b = true) := by
  have hb := Spn.wantB_bounds h
  unfold Spn.wantB at h
  dsimp only at h hb
  split at h
  · rename_i h1; exact .inl ⟨by simpa using h1, h⟩
  · split at h
    · rename_i h1; exact .inr (.inl ⟨h, by simpa using h1⟩)
    · simp only [Bool.and_eq_true] at h; exact .inr (.inr ⟨h.1.1, h.1.2⟩)
theorem itoa_ne (v : Int) (h : nB v = true) : Lib.itoa v ≠ [] := by
  obtain ⟨h0, _⟩ := nB_bounds h
  unfold Lib.itoa
  rw [if_neg (by omega)]
  exact dec_ne _
theorem numL_size {v : Int} (h : nB v = true ∨ v = -1) : (mkS (numL v)).size ≤ 5 := by
  rw [mkS_size]
  unfold numL
  rcases h with h | rfl
  · rw [if_neg (by have := nB_bounds h; omega)]; exact itoa_len h
  · simp
theorem numL_full {v : Int} (h : nB v = true) : numL v = Lib.itoa v := by unfold numL; rw [if_neg (by have := nB_bounds h; omega)]
theorem app_no {x y : ByteArray} (h : x.toList.isEmpty = false ∨ y.toList.isEmpty = false) : (x ++ y).toList.isEmpty = false := by
  rw [ba_toList] at h ⊢
  rw [ba_toList y] at h
  rw [sl_append]
  cases hx : sl x with
  | cons c l => rfl
  | nil =>
    rw [hx] at h
    rcases h with h | h
    · cases h
    · exact h
theorem results_ct {fn : Func} {p u : Tmp} {ty : TypeId} (h : fn.results = #[.cell p ty, .tmp u]) (tmps : Array Value) (P : Program) (w : World) (g : Nat) (t : TypeId) (cs : Array Value) (fr : Nat × Nat) (fs : Array Field)
    (hp : tmps.getD p undef = .pointer (some ⟨g, 0, none⟩)) (hg : w.heap[g]? = some (.cells cs t fr))
    (hu : P.underlying ty = some (.struct fs)) (hi : (P.info? ty).map (·.size) = some cs.size) :
    (results fn tmps).run P w = .ok (.tuple #[.agg cs, tmps.getD u undef]) w := by
  have hp' : tmps[p]?.getD undef = .pointer (some ⟨g, 0, none⟩) := by simpa using hp
  simp [results, h, hp', asAddr, run_loadVar_row w g t ty cs fr (.struct fs) hg hu rfl hi]
theorem setRow_far {w : World} {g k : Nat} {t : TypeId} {cs ds : Array Value} (h : Blk w k t cs) (hn : g ≠ k) : Blk (w.setRow g ds) k t cs := (setRow_other _ _ _ _ (Ne.symm hn)).trans h
end Spw
namespace Spw
open Spc
end Spw
end Go.Proofs.YtgjfhgcjiglfkaaGreatDoor
