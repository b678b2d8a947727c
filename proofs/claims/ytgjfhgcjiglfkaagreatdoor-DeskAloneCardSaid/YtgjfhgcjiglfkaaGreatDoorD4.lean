import Derived.Test.YtgjfhgcjiglfkaaGreatDoorD1
import Derived.Test.YtgjfhgcjiglfkaaGreatDoorD3
import Derived.Recover
import Derived.Great.Walk
import Derived.WalkLawsBesides
import Derived.Test.YtgjfhgcjiglfkaaGreatDoorD2
import Derived.Lib.ItoaLen
import Derived.Test.YtgjfhgcjiglfkaaGreatDoorD0
import Derived.Maps.RangeWalk
import Derived.StringKeys
import Derived.Laws.Tables
import Derived.OrdersHeld
import Derived.Below
import Derived.Maps.OwnSet
import Derived.Laws.BitsAllLaws
import Derived.BigQuiet
import Derived.Deep.QuietTactic
set_option linter.unusedVariables false
set_option linter.unusedSimpArgs false
namespace Go.Proofs.YtgjfhgcjiglfkaaGreatDoor
set_option maxRecDepth 20000
open Go.RowKit Go.Shelf
namespace Dk
def badP (c : Int) : List PanicEntry := [{ v := .iface 157 (.agg #[.int .i64 c]), recovered := false }]
def AnsD (r : Except Int ByteArray) (e : Ending) : Prop := match r with | .ok t => e = .returned (.string t) | .error c => e = .panicked (badP c)
theorem fails_ok (w : World) : Calls Tryz.prog 78 #[.int .i64 0] w fun e w' => e = .returned (.tuple #[]) ∧ w = w' := by
  go_enter Tryz.func78, Tryz.ntmps78
  go_wp2_with fail
  exact Great.bodyPost_end0 rfl rfl ⟨rfl, rfl⟩
theorem fails_bad (c : Int) (hc : c ≠ 0) (w : World) : Calls Tryz.prog 78 #[.int .i64 c] w fun e w' => e = .panicked (badP c) ∧ w = w' := by
  have h1 : (c != 0) = true := by simpa using hc
  go_enter Tryz.func78, Tryz.ntmps78
  go_wp2_with fail
  exact ⟨rfl, rfl, rfl⟩
theorem told_ok (s : ByteArray) (w : World) : Calls Tryz.prog 125 #[.string s, .int .i64 0] w fun e w' => e = .returned (.string s) ∧ w = w' := by
  go_enter Tryz.func125, Tryz.ntmps125
  go_wp2_with fail
  refine (fails_ok _).mono ?_
  rintro e w1 ⟨rfl, rfl⟩
  go_wp2_with fail
  go_ret
  exact ⟨rfl, rfl⟩
theorem told_bad (s : ByteArray) (c : Int) (hc : c ≠ 0) (w : World) : Calls Tryz.prog 125 #[.string s, .int .i64 c] w fun e w' => e = .panicked (badP c) ∧ w = w' := by
  go_enter Tryz.func125, Tryz.ntmps125
  go_wp2_with fail
  refine (fails_bad c hc _).mono ?_
  rintro e w1 ⟨rfl, rfl⟩
  go_wp2_with fail
  exact ⟨rfl, rfl, rfl⟩
def oneD : List ByteArray → Except Int ByteArray | [s] => .ok s | _ => .error 3
theorem one_any (v : Value) (l : List ByteArray) (w : World) (h : SlR w es v l) : Calls Tryz.prog 127 #[v] w fun e w' => AnsD (oneD l) e ∧ w = w' := by
  have H := Lib.hid (fun hn => h.texts hn)
  obtain ⟨A, c, rfl, hc⟩ := h.form
  by_cases h1 : l.length = 1
  · obtain ⟨s, rfl⟩ : ∃ s, l = [s] := by
      cases l with
      | nil => simp at h1
      | cons s r => cases r with
        | nil => exact ⟨s, rfl⟩
        | cons t r => simp at h1
    obtain ⟨b, o, c', he, hc', hb, hcell⟩ := H.out (by simp)
    injection he with g1 g2 g3
    subst g1 g3
    have c0 := hcell 0 (by simp)
    simp only [List.getElem_cons_zero, Nat.add_zero] at c0
    clear h1 H hcell h
    go_enter Tryz.func127, Tryz.ntmps127
    go_wp2_with fail
    go_ret
    exact ⟨rfl, rfl⟩
  · have hne : (((l.length : Nat) : Int) != 1) = true := by simp; omega
    have hone : oneD l = .error 3 := by
      cases l with
      | nil => rfl
      | cons s r => cases r with
        | nil => simp at h1
        | cons t r => rfl
    have HO := Lib.hid hone
    clear hone h H h1
    generalize l.length = n at *
    go_enter Tryz.func127, Tryz.ntmps127
    go_wp2_with fail
    refine (fails_bad 3 (by decide) _).mono ?_
    rintro e w1 ⟨rfl, rfl⟩
    go_wp2_with fail
    exact ⟨rfl, by rw [HO.out]; rfl, rfl⟩
def numD (s : ByteArray) : Except Int Int := match Lib.atoiAll (sl s) with
  | .ok v => if 18 < s.size ∨ v < 0 ∨ Lib.itoa v ≠ sl s then .error 3 else .ok v
  | _ => .error 3
def NumD (r : Except Int Int) (e : Ending) : Prop := match r with | .ok v => e = .returned (.int .i64 v) | .error c => e = .panicked (badP c)
theorem numD_no {s : ByteArray} (h : ∀ u, Lib.atoiAll (sl s) ≠ .ok u) : numD s = .error 3 := by
  unfold numD
  split
  · rename_i v hv; exact absurd hv (h v)
  · rfl
theorem numD_bad {s : ByteArray} {v : Int} (h : Lib.atoiAll (sl s) = .ok v) (hb : 18 < s.size ∨ v < 0 ∨ Lib.itoa v ≠ sl s) : numD s = .error 3 := by
  unfold numD
  rw [h]
  exact if_pos hb
theorem numD_ok {s : ByteArray} {v : Int} (h : Lib.atoiAll (sl s) = .ok v) (hb : ¬ (18 < s.size ∨ v < 0 ∨ Lib.itoa v ≠ sl s)) : numD s = .ok v := by
  unfold numD
  rw [h]
  exact if_neg hb
theorem numD_in {s : ByteArray} {v : Int} (h : numD s = .ok v) : 0 ≤ v ∧ v ≤ 9223372036854775807 := by
  unfold numD at h
  split at h
  · rename_i u hu
    split at h
    · cases h
    · rename_i hn
      injection h with h
      subst h
      exact ⟨by omega, (Bd.atoi_in hu).2⟩
  · cases h
set_option maxHeartbeats 1000000 in
theorem number_any (s : ByteArray) (w : World) (hs : s.size ≤ 1000) (he : Bd.HasErr w) :
    Calls Tryz.prog 133 #[.string s] w fun e w' => NumD (numD s) e ∧ Below w.heap.size w w' := by
  have HE := Lib.hid (fun w' (hb : Below w.heap.size w w') => he.below hb)
  have HA := Lib.hid (Spc.atoi_wide s w (by omega) he)
  clear he
  go_enter Tryz.func133, Tryz.ntmps133
  go_wp2_with fail
  refine HA.out.mono ?_
  rintro e w1 ⟨⟨v, ev, rfl, hat⟩, b1⟩
  clear HA
  have HP := Lib.hid (HE.out _ b1).p10
  have HB1 := Lib.hid b1
  clear b1
  rcases hat with ⟨hok, rfl⟩ | ⟨hno, t, q, rfl⟩
  · have hvr := Bd.atoi_in hok
    by_cases h18 : 18 < s.size
    · have HR : Hid (numD s = .error 3) := numD_bad hok (.inl h18)
      have d1 : decide (18 < s.size) = true := decide_eq_true h18
      have d2 : decide ((18 : Int) < (s.size : Int)) = true := decide_eq_true (by omega)
      clear hok h18
      go_wp2_with fail
      refine (fails_bad 3 (by decide) _).mono ?_
      rintro e w2 ⟨rfl, rfl⟩
      go_wp2_with fail
      exact ⟨rfl, by rw [HR.out]; rfl, HB1.out⟩
    · have d1 : decide (18 < s.size) = false := decide_eq_false h18
      have d2 : decide ((18 : Int) < (s.size : Int)) = false := decide_eq_false (by omega)
      by_cases h0 : v < 0
      · have HR : Hid (numD s = .error 3) := numD_bad hok (.inr (.inl h0))
        have d3 : decide (v < 0) = true := decide_eq_true h0
        clear hok h18 h0
        go_wp2_with fail
        refine (fails_bad 3 (by decide) _).mono ?_
        rintro e w2 ⟨rfl, rfl⟩
        go_wp2_with fail
        exact ⟨rfl, by rw [HR.out]; rfl, HB1.out⟩
      · have d3 : decide (v < 0) = false := decide_eq_false h0
        have HIt := Lib.hid (Bd.itoa_any v w1 hvr.1 hvr.2 HP.out)
        have hq : ((mkS (Lib.itoa v)).toList == s.toList) = decide (Lib.itoa v = sl s) := by rw [ba_toList, ba_toList, sl_mkS]; by_cases h : Lib.itoa v = sl s <;> simp [h]
        have hq2 : ((mkS (Lib.itoa v)).toList != s.toList) = !decide (Lib.itoa v = sl s) := by rw [bne, hq]
        by_cases he : Lib.itoa v = sl s
        · have HR : Hid (numD s = .ok v) := numD_ok hok (by simp [h18, h0, he])
          rw [decide_eq_true he] at hq hq2
          clear hok h18 h0 he
          go_wp2_with fail
          refine HIt.out.mono ?_
          rintro e w2 ⟨rfl, b2⟩
          have HB2 := Lib.hid (HB1.out.trans (b2.mono HB1.out.size))
          clear b2
          go_wp2_with fail
          go_ret
          exact ⟨by rw [HR.out]; rfl, HB2.out⟩
        · have HR : Hid (numD s = .error 3) := numD_bad hok (.inr (.inr he))
          rw [decide_eq_false he] at hq hq2
          clear hok h18 h0 he
          go_wp2_with fail
          refine HIt.out.mono ?_
          rintro e w2 ⟨rfl, b2⟩
          have HB2 := Lib.hid (HB1.out.trans (b2.mono HB1.out.size))
          clear b2
          go_wp2_with fail
          refine (fails_bad 3 (by decide) _).mono ?_
          rintro e w3 ⟨rfl, rfl⟩
          go_wp2_with fail
          exact ⟨rfl, by rw [HR.out]; rfl, HB2.out⟩
  · have HR : Hid (numD s = .error 3) := numD_no hno
    clear hno
    go_wp2_with fail
    refine (fails_bad 3 (by decide) _).mono ?_
    rintro e w2 ⟨rfl, rfl⟩
    go_wp2_with fail
    exact ⟨rfl, by rw [HR.out]; rfl, HB1.out⟩
def listD (l : List ByteArray) : ByteArray := if l.length = 0 then ⟨#[110, 111, 110, 101]⟩ else joinS l ⟨#[32]⟩
theorem list_any (v : Value) (l : List ByteArray) (w : World) (h : SlR w es v l) (hl : l.length ≤ 1000000) (hz : ∀ x ∈ l, x.size ≤ 1000000) :
    Calls Tryz.prog 195 #[v] w fun e w' => e = .returned (.string (listD l)) ∧ Below w.heap.size w w' := by
  have hjl : (joinL l ⟨#[32]⟩).length ≤ 140737488351232 := by
    refine Nat.le_trans (joinL_len l _) ?_
    have h1 : ∀ m : List ByteArray, (∀ x ∈ m, x.size ≤ 1000000) → (m.map (fun x => x.size + (⟨#[32]⟩ : ByteArray).size)).sum ≤ 1000001 * m.length := by
      intro m
      induction m with
      | nil => intro _; simp
      | cons a m ih =>
        intro hm
        have h2 := ih fun x hx => hm x (List.mem_cons_of_mem _ hx)
        have h3 := hm a (by simp)
        have h4 : (⟨#[32]⟩ : ByteArray).size = 1 := rfl
        rw [List.map_cons, List.sum_cons, List.length_cons]
        omega
    have := h1 l hz
    omega
  have HJ := Lib.hid (join_any v l ⟨#[32]⟩ w h (by omega) hjl)
  obtain ⟨A, c, rfl, -⟩ := h.form
  by_cases h0 : l.length = 0
  · have HR : Hid (listD l = ⟨#[110, 111, 110, 101]⟩) := if_pos h0
    have d0 : (((l.length : Nat) : Int) == 0) = true := by simp [h0]
    clear h hl hz hjl h0 HJ
    generalize l.length = n at *
    go_enter Tryz.func195, Tryz.ntmps195
    go_wp2_with fail
    go_ret
    exact ⟨by rw [HR.out]; rfl, Below.refl _ _⟩
  · have HR : Hid (listD l = joinS l ⟨#[32]⟩) := if_neg h0
    have d0 : (((l.length : Nat) : Int) == 0) = false := by simp; intro e; exact h0 (by rw [e]; rfl)
    clear h hl hz hjl h0
    generalize hS : joinS l ⟨#[32]⟩ = S at *
    generalize l.length = n at *
    go_enter Tryz.func195, Tryz.ntmps195
    go_wp2_with fail
    refine HJ.out.mono ?_
    rintro e w1 ⟨rfl, b1⟩
    go_wp2_with fail
    go_ret
    exact ⟨by rw [HR.out]; rfl, b1⟩
end Dk
set_option maxRecDepth 20000
namespace Dk
def szD (s : ByteArray) : ByteArray := mkS (Lib.itoa (s.size : Int))
def sizesD (l : List ByteArray) : ByteArray := listD (l.map szD)
theorem szD_len (s : ByteArray) (h : s.size ≤ 1000000) : (szD s).size ≤ 1000000 := by
  unfold szD
  rw [mkS_size]
  have := Lib.itoa_length_le (s.size : Int) (by omega) (by omega)
  omega
set_option maxHeartbeats 1000000 in
theorem sizes_any (v : Value) (l : List ByteArray) (w : World) (h : SlR w es v l) (hl : l.length ≤ 1000) (hz : ∀ x ∈ l, x.size ≤ 1000000) (hp : HasP10 w) :
    Calls Tryz.prog 131 #[v] w fun e w' => e = .returned (.string (sizesD l)) ∧ Below w.heap.size w w' := by
  have H := Lib.hid (fun hn => h.texts hn)
  have HZ := Lib.hid hz
  have HP := Lib.hid (fun w' (hb : Below w.heap.size w w') => hp.below rfl hb)
  obtain ⟨A, c, rfl, -⟩ := h.form
  clear h hz hp
  go_enter Tryz.func131, Tryz.ntmps131
  go_wp2_with fail
  go_loopw [3, 8] (fun o i wr => ∃ k : Nat, k ≤ l.length ∧ i = .int .i64 k ∧ Owns wr w.heap.size 9 1 es o ((l.take k).map szD) ∧ Below w.heap.size w wr) (fun _ i _ => l.length - (intOf i).toNat)
  case atStart => exact ⟨0, by omega, rfl, Owns.nil _ _ _ _ _, Below.refl _ _⟩
  case round =>
    obtain ⟨k, hk, rfl, hown, hbel⟩ := hrel
    have HO := Lib.hid hown
    by_cases hlt : k < l.length
    · obtain ⟨b, o, c', he, hc', hb, hcell⟩ := H.out (by omega)
      injection he with g1 g2 g3
      subst g1 g3
      have c0 := (hbel.cell (p := ⟨b, o + k, none⟩) hb).trans (hcell k hlt)
      have HT : Hid ((l.take (k + 1)).map szD = (l.take k).map szD ++ [szD l[k]]) := by show _ = _; rw [List.take_add_one, List.getElem?_eq_getElem hlt, List.map_append]; rfl
      have hlen : ((l.take k).map szD).length ≤ 1000 := by simp; omega
      have hzk := HZ.out _ (List.getElem_mem hlt)
      clear hcell g2 hown
      generalize (l.take k).map szD = ts at *
      generalize l[k] = x at *
      have HI := Lib.hid (fun W hW => Bd.itoa_any (x.size : Int) W (by omega) (by omega) hW)
      have HPr := Lib.hid (HP.out _ hbel)
      have HB := Lib.hid hbel
      clear hbel
      go_wp2_with fail
      refine (HI.out _ HPr.out).mono ?_
      rintro e w2 ⟨rfl, b2⟩
      have HO2 := Lib.hid (HO.out.below b2)
      have HB2 := Lib.hid (HB.out.trans (b2.mono HB.out.size))
      have hm : mkS (Lib.itoa (x.size : Int)) = szD x := rfl
      rw [hm]
      generalize szD x = y at *
      clear hm b2
      go_wp2_with (at_builtin; go_must (refine wpList_append_owns rfl (.tmp 12) (.tmp 16) _ rfl w.heap.size 9 (.string ByteArray.empty) 1 16 es Tryz.underlying69 stringInfo rfl (by decide) _ ts rfl (HO2.out.alloc _) ⟨w2.heap.size, 0, none⟩ 1 1 [y] rfl rfl rfl (new_cells _ [.string y] _) (es_one [_]) (by simp only [maxLen]; omega) (by omega) (bel_size HB2.out (Nat.le_refl _) _) ?_); intro v3 w3 hown3 hg3)
      go_roundw
      case rel => exact ⟨k + 1, by omega, by go_num, by rw [HT.out]; exact hown3, (HB2.out.alloc HB2.out.size _).grown hg3 (bel_size HB2.out (Nat.le_refl _) _) (fun k hk => (HO2.out.lt k hk).1)⟩
      case measure => simp [intOf]; omega
    · obtain rfl : l.length = k := by omega
      have hT : l.take l.length = l := List.take_of_length_le (Nat.le_refl _)
      rw [hT] at HO
      have HL := Lib.hid (list_any _ (l.map szD) wr (SlR.of_owns HO.out) (by rw [List.length_map]; omega) (fun y hy => by
        obtain ⟨x, hx, rfl⟩ := List.mem_map.1 hy
        exact szD_len x (HZ.out x hx)))
      obtain ⟨A2, c2, rfl, -⟩ := (SlR.of_owns HO.out).form
      have HB := Lib.hid hbel
      clear hbel hT H
      have hs : Hid (sizesD l = listD (l.map szD)) := by show _ = _; rfl
      generalize l.map szD = ts at *
      go_wp2_with fail
      refine HL.out.mono ?_
      rintro e w2 ⟨rfl, b2⟩
      have hf := HB.out.trans (b2.mono HB.out.size)
      go_wp2_with fail
      go_ret
      exact ⟨by rw [hs.out]; rfl, hf⟩
end Dk
end Go.Proofs.YtgjfhgcjiglfkaaGreatDoor
namespace Go.Proofs.YtgjfhgcjiglfkaaGreatDoor
namespace Ca
variable {α : Type} (cm : α → Int)
end Ca
set_option maxRecDepth 20000
open Go.RowKit
open Go.Maps (Keyed)
def heldR (v : Value) : Option (DataW Value × List MemPlace) := some (.held v, [])
def kl (s : ByteArray) : Lit := .string s.data.toList
theorem kl_inj {s t : ByteArray} (h : kl s = kl t) : s = t := by
  unfold kl at h
  injection h with h
  exact sl_inj h
theorem kl_ne {s t : ByteArray} (h : s ≠ t) : kl s ≠ kl t := fun e => h (kl_inj e)
theorem kl_key (s : ByteArray) : WideAt.IsKeyLit (kl s) := trivial
def fput (f : ByteArray → Option Value) (k : ByteArray) (v : Value) : ByteArray → Option Value := fun x => if x = k then some v else f x
def MapS (P : Program) (w : World) (kt : TypeId) (b : Nat) (f : ByteArray → Option Value) (c : Nat) : Prop :=
  ∃ D, w.ownsMap P kt heldR b c D ∧ Maps.size D = c ∧ (∀ k z, D.atKey (kl k) z = (match f k with | some v => .held v | none => z)) ∧ ∀ k, Maps.has D (kl k) = (f k).isSome
section
variable {P : Program} {w w' : World} {kt : TypeId} {b c : Nat} {f : ByteArray → Option Value}
theorem owns_size {H : Type} {R : Value → Option (DataW H × List MemPlace)} {n : Nat} {D : DataW H} (h : w.ownsMap P kt R b n D) : w.ownsMap P kt R b (Maps.size D) D := by
  obtain ⟨es, clock, hb, F, hs, rfl⟩ := h
  exact ⟨es, clock, hb, F, by simp [Maps.size, length_sorted], rfl⟩
theorem MapS.made (w : World) (P : Program) (kt : TypeId) : MapS P (w.alloc (.map #[] 0)) kt w.heap.size (fun _ => none) 0 :=
  ⟨_, World.ownsMap_made w P kt heldR, rfl, fun _ _ => rfl, fun _ => rfl⟩
variable {t e : TypeId}
theorem MapS.look (h : MapS P w kt b f c) (hk : P.underlying kt = some .string) (ht : P.underlying t = some (.map kt e)) {z : Value} (hz : (zeroValue e).run P w = .ok z w) {k : ByteArray} (hks : k.size ≤ maxLen) :
    (Instr.lookup t (.map (some b)) (.string k) false).run P w = .ok ((f k).getD z) w := by
  obtain ⟨D, h, _, hat, _⟩ := h
  obtain ⟨v, ps, hrun, hv⟩ := h.lookup (Maps.string_keyed hk) ht hz (zd := .held z) (zp := []) rfl (Go.WideMaps.keyOf_string_mk hk hks)
  have h1 : (DataW.held v : DataW Value) = D.atKey (kl k) (.held z) := by
    unfold heldR at hv
    injection hv with hv
    exact (Prod.mk.inj hv).1
  rw [hat] at h1
  rw [hrun]
  cases hf : f k with
  | none => rw [hf] at h1; injection h1 with h1; rw [h1]; rfl
  | some u => rw [hf] at h1; injection h1 with h1; rw [h1]; rfl
theorem MapS.upd (h : MapS P w kt b f c) (hk : P.underlying kt = some .string) (ht : P.underlying t = some (.map kt e)) {k : ByteArray} (hks : k.size ≤ maxLen) (v : Value) (hc : c < maxLen) :
    ∃ w', (Instr.mapUpdate t (.map (some b)) (.string k) v).run P w = .ok () w' ∧ MapS P w' kt b (fput f k v) (if (f k).isSome then c else c + 1) ∧ w.mapTurned w' b := by
  obtain ⟨D, h, hs, hat, hh⟩ := h
  obtain ⟨w', hrun, r1, r2⟩ := h.store (Maps.string_keyed hk) ht hc (Go.WideMaps.keyOf_string_mk hk hks) (val := v) (d := .held v) (ps := []) rfl
  have hT := h.tidy (Maps.string_keyed hk)
  have hsz : Maps.size (D.put (kl k) (.held v)) = if (f k).isSome then c else c + 1 := by
    rw [Maps.size_put hT, hh k, hs]
  refine ⟨w', hrun, ⟨D.put (kl k) (.held v), hsz ▸ owns_size r1, hsz, fun x z => ?_, fun x => ?_⟩, r2⟩
  · unfold fput
    by_cases hx : x = k
    · subst hx
      rw [Maps.atKey_put_same hT.isMap (kl_key x), if_pos rfl]
    · rw [Maps.atKey_put_other (kl_ne hx), if_neg hx, hat]
  · unfold fput
    by_cases hx : x = k
    · subst hx
      rw [Maps.has_put_same hT.isMap (kl_key x), if_pos rfl]
      rfl
    · rw [Maps.has_put_other (kl_ne hx), if_neg hx, hh]
end
set_option maxRecDepth 20000
section
variable {P : Program} {w w' : World} {kt : TypeId} {b r cnt : Nat} {f : ByteArray → Option Value} {left : ByteArray → Bool}
variable {t e : TypeId} {ops : Array Oper} {rest : List Oper} {o : Oper} {a : Act} {Q : Exit → Act → World → Prop} {c : Nat}
end
end Go.Proofs.YtgjfhgcjiglfkaaGreatDoor
namespace Go.Proofs.YtgjfhgcjiglfkaaGreatDoor
open Go.RowKit
structure Lim where
  lo : Nat
  ex : Nat → Prop
def lim (n : Nat) : Lim := ⟨n, fun _ => False⟩
instance : Coe Nat Lim := ⟨lim⟩
def Lim.ok (n : Lim) (k : Nat) : Prop := n.lo ≤ k ∨ n.ex k
theorem lim_ok {n k : Nat} : (lim n).ok k ↔ n ≤ k := ⟨fun h => h.elim id (fun e => e.elim), fun h => .inl h⟩
section
variable {n m : Lim} {a b w w' w'' : World}
end
set_option maxRecDepth 20000
section
variable {ex : List TypeId} {n0 : Lim} {w w' w'' : World}
end
section
variable {ex : List TypeId} {mb : Nat} {n0 : Lim} {w w' w'' : World}
end
abbrev Nd := Nat × ByteArray × Int
section
variable {w w' : World} {n0 : Lim} {c mb : Nat} {ns : List Nd}
end
section
variable {P : Program} {ops : Array Oper} {Q : Exit → Act → World → Prop} {S : World → Prop} {md : Region.Mode} {last : Nat}
def wpAnyL (P : Program) (md : Region.Mode) (ops : Array Oper) (Q : Exit → Act → World → Prop) (S : World → Prop) (last : Nat) : Nat → Array Bool → Act → World → Prop
  | 0, listed, a, w => Region.ready md ops listed = [] ∧ Q .normal a w
  | fuel + 1, listed, a, w =>
    (Region.ready md ops listed = [] → Q .normal a w) ∧
    ∀ i ∈ Region.ready md ops listed, wpOp P ops Q i (fun a' w' => (i ≠ last → S w') ∧ wpAnyL P md ops Q S last fuel (listed.setIfInBounds i true) a' w') a w
theorem wpAny_of_last : ∀ (fuel : Nat) (listed : Array Bool) (a : Act) (w : World), wpAnyL P md ops Q S last fuel listed a w → wpAny P md ops Q fuel listed a w
  | 0, _, _, _, h => h
  | fuel + 1, _, _, _, h => ⟨h.1, fun i hi => wpOp_mono (fun a' w' h' => wpAny_of_last fuel _ a' w' h'.2) (h.2 i hi)⟩
def Closed (md : Region.Mode) (ops : Array Oper) (listed : Array Bool) : Prop :=
  ∀ j oj, ops[j]? = some oj → listed.getD j false = true → ∀ e ∈ oj.after, Region.binds md e = true → listed.getD e.on false = true
theorem Closed.start (n : Nat) : Closed md ops (Array.replicate n false) := by
  intro j oj _ h
  exfalso
  simp only [Array.getD_eq_getD_getElem?, Array.getElem?_replicate] at h
  split at h <;> simp at h
theorem Closed.step {listed : Array Bool} {i : Nat} (h : Closed md ops listed) (hi : i ∈ Region.ready md ops listed) : Closed md ops (listed.setIfInBounds i true) := by
  intro j oj hj hl e he hb
  by_cases hij : i = j
  · subst hij
    obtain ⟨_, o, ho, hall⟩ := mem_ready.1 hi
    rw [hj] at ho
    cases ho
    exact getD_set_true (hall e he hb)
  · rw [getD_set_ne false hij] at hl
    exact getD_set_true (h j oj hj hl e he hb)
def chainTo (md : Region.Mode) (ops : Array Oper) (last : Nat) : Bool :=
  (List.range ops.size).all fun i => i == last || (List.range ops.size).any fun j => decide (i < j) && match ops[j]? with
    | some oj => oj.after.any (fun e => Region.binds md e && e.on == i)
    | none => false
theorem all_listed {listed : Array Bool} (hc : chainTo md ops last = true) (h : Closed md ops listed) (hl : last ∈ Region.ready md ops listed) :
    ∀ (n i : Nat), ops.size - i ≤ n → i < ops.size → i ≠ last → listed.getD i false = true
  | 0, i, hn, hi, _ => by omega
  | n + 1, i, hn, hi, hne => by
    have h1 := List.all_eq_true.1 hc i (List.mem_range.2 hi)
    simp only [Bool.or_eq_true, beq_iff_eq, hne, false_or, List.any_eq_true, List.mem_range, Bool.and_eq_true, decide_eq_true_eq] at h1
    obtain ⟨j, hj, hij, hm⟩ := h1
    have hoj := Array.getElem?_eq_getElem hj
    rw [hoj] at hm
    obtain ⟨e, he, hb⟩ := Array.any_eq_true'.1 hm
    simp only [Bool.and_eq_true, beq_iff_eq] at hb
    by_cases hjl : j = last
    · subst hjl
      obtain ⟨_, o, ho, hall⟩ := mem_ready.1 hl
      rw [hoj] at ho
      cases ho
      have := hall e he hb.1
      rwa [hb.2] at this
    · have := h j _ hoj (all_listed hc h hl n j (by omega) hj hjl) e he hb.1
      rwa [hb.2] at this
theorem only_last {listed : Array Bool} (hc : chainTo md ops last = true) (h : Closed md ops listed) (hl : last ∈ Region.ready md ops listed) {i : Nat} (hi : i ∈ Region.ready md ops listed) : i = last := by
  by_cases hne : i = last
  · exact hne
  · exfalso
    obtain ⟨h0, o, ho, _⟩ := mem_ready.1 hi
    have hlt := (Array.getElem?_eq_some_iff.1 ho).1
    have h1 := all_listed hc h hl _ i (Nat.le_refl _) hlt hne
    rw [Array.getD_eq_getD_getElem?] at h0 h1
    cases hg : listed[i]? with
    | none => rw [hg] at h1; cases h1
    | some b => rw [hg] at h0 h1; simp at h0 h1; rw [h0] at h1; cases h1
theorem wpAnyL_first {i : Nat} {oi : Oper} {v : Value} (hi : ops[i]? = some oi) (hne : i ≠ last) (hch : chainTo md ops last = true) (hsel : ∀ (j : Nat) (o : Oper) cs b, ops[j]? = some o → o.op ≠ .select cs b)
    (hQ : ∀ c a w, Q (.panic c) (a.put oi.dst v) w → Q (.panic c) a w) :
    ∀ (fuel : Nat) (listed : Array Bool) (a : Act) (w : World), Closed md ops listed →
      (∀ j oj, ops[j]? = some oj → j ≠ i → listed.getD j true = false → (∀ e ∈ oj.after, Region.binds md e = true → e.on ≠ i) → oi.apart ops oj = true) →
      i ∈ Region.ready md ops listed → YieldsIf P ops S oi v a → S w →
      wpAnyL P md ops Q S last fuel (listed.setIfInBounds i true) (a.put oi.dst v) w → wpAnyL P md ops Q S last (fuel + 1) listed a w := by
  intro fuel
  induction fuel with
  | zero =>
    intro listed a w _ _ hr hy hS H
    refine ⟨fun h => (by rw [h] at hr; cases hr), fun j hj => ?_⟩
    by_cases hji : j = i
    · subst hji; exact hy.wpOp hi hS ⟨fun _ => hS, H⟩
    · have := ready_mono hj hji
      rw [H.1] at this
      cases this
  | succ fuel ih =>
    intro listed a w hcl hfree hr hy hS H
    refine ⟨fun h => (by rw [h] at hr; cases hr), fun j hj => ?_⟩
    by_cases hji : j = i
    · subst hji; exact hy.wpOp hi hS ⟨fun _ => hS, H⟩
    · have hjl : j ≠ last := fun e => by
        subst e
        exact hne (only_last hch hcl hj hr)
      have h1 := H.2 j (ready_mono hj hji)
      obtain ⟨hjun, oj, hoj, hall⟩ := mem_ready.1 hj
      have hnot : ∀ e ∈ oj.after, Region.binds md e = true → e.on ≠ i := fun e he hb heq => by
        have h1 := hall e he hb
        have h0 := (mem_ready.1 hr).1
        rw [heq] at h1
        rcases Nat.lt_or_ge i listed.size with h' | h'
        · simp [h'] at h0 h1; rw [h0] at h1; cases h1
        · simp [Array.getElem?_eq_none h'] at h1
      have h2 := wpOp_putIf hoj (hfree j oj hoj hji hjun hnot) (fun cs b => hsel i oi cs b hi) (fun cs b => hsel j oj cs b hoj) hQ hy h1
      have hfree' : ∀ k ok, ops[k]? = some ok → k ≠ i → (listed.setIfInBounds j true).getD k true = false →
          (∀ e ∈ ok.after, Region.binds md e = true → e.on ≠ i) → oi.apart ops ok = true := fun k ok hk hki hun hno => by
        refine hfree k ok hk hki ?_ hno
        by_cases hjk : j = k
        · subst hjk; exact hjun
        · rw [getD_set_ne true hjk] at hun; exact hun
      refine wpOp_mono (fun a' w' h3 => ⟨h3.2.1, ih (listed.setIfInBounds j true) a' w' (hcl.step hj) hfree' (ready_mono hr (Ne.symm hji)) h3.1 (h3.2.1 hjl) ?_⟩) h2
      rw [Array.setIfInBounds_comm _ _ hji]
      exact h3.2.2
def seqL (P : Program) (ops : Array Oper) (Q : Exit → Act → World → Prop) (S : World → Prop) (last : Nat) : List (Bool × Nat) → Act → World → Prop
  | [], a, w => Q .normal a w
  | (true, i) :: l, a, w => ∃ o v, ops[i]? = some o ∧ YieldsIf P ops S o v a ∧ seqL P ops Q S last l (a.put o.dst v) w
  | (false, i) :: l, a, w => wpOp P ops Q i (fun a' w' => (i ≠ last → S w') ∧ seqL P ops Q S last l a' w') a w
def okSeqL (ops : Array Oper) (last : Nat) : List (Bool × Nat) → Array Bool → Bool
  | [], listed => (Region.ready .any ops listed).isEmpty
  | (true, i) :: l, listed => i != last && (Region.ready .any ops listed).contains i && Region.free .any ops listed i && okSeqL ops last l (listed.setIfInBounds i true)
  | (false, i) :: l, listed => (Region.ready .any ops listed == [i]) && (i != last || l.isEmpty) && okSeqL ops last l (listed.setIfInBounds i true)
theorem seqL_sound (hch : chainTo .any ops last = true) (hs : Region.noSelect ops = true) (hQ : ∀ (d : Option Tmp) (v : Value) c a w, Q (.panic c) (a.put d v) w → Q (.panic c) a w) :
    ∀ (l : List (Bool × Nat)) (fuel : Nat) (listed : Array Bool) (a : Act) (w : World), Closed .any ops listed → l.length ≤ fuel → okSeqL ops last l listed = true → (l ≠ [] → S w) → seqL P ops Q S last l a w → wpAnyL P .any ops Q S last fuel listed a w
  | [], fuel, listed, a, w, _, _, hok, _, h => by
    have hr : Region.ready .any ops listed = [] := by simpa [okSeqL] using hok
    cases fuel with
    | zero => exact ⟨hr, h⟩
    | succ fuel => exact ⟨fun _ => h, by rw [hr]; simp⟩
  | (true, i) :: l, 0, listed, a, w, _, hl, _, _, _ => by simp at hl
  | (true, i) :: l, fuel + 1, listed, a, w, hcl, hl, hok, hS, h => by
    simp only [okSeqL, Bool.and_eq_true, bne_iff_ne] at hok
    obtain ⟨o, v, ho, hy, hr⟩ := h
    have hri : i ∈ Region.ready .any ops listed := by simpa using hok.1.1.2
    exact wpAnyL_first ho hok.1.1.1 hch (Region.noSelect_spec hs) (hQ _ _) fuel listed a w hcl (Region.free_spec ho hok.1.2) hri hy (hS (by simp))
      (seqL_sound hch hs hQ l fuel _ _ w (hcl.step hri) (by simp at hl; omega) hok.2 (fun _ => hS (by simp)) hr)
  | (false, i) :: l, 0, listed, a, w, _, hl, _, _, _ => by simp at hl
  | (false, i) :: l, fuel + 1, listed, a, w, hcl, hl, hok, hS, h => by
    simp only [okSeqL, Bool.and_eq_true, beq_iff_eq, Bool.or_eq_true, bne_iff_ne, List.isEmpty_iff] at hok
    have hri : i ∈ Region.ready .any ops listed := by rw [hok.1.1]; simp
    refine ⟨fun h0 => (by rw [h0] at hri; cases hri), fun j hj => ?_⟩
    obtain rfl : j = i := by rw [hok.1.1] at hj; simpa using hj
    refine wpOp_mono (fun a' w' ⟨h1, h2⟩ => ⟨h1, seqL_sound hch hs hQ l fuel _ a' w' (hcl.step hri) (by simp at hl; omega) hok.2 (fun hne => h1 ?_) h2⟩) h
    rcases hok.1.2 with h' | h'
    · exact h'
    · exact absurd h' hne
theorem wp_region_last {id : Nat} {a : Act} {w : World} (l : List (Bool × Nat)) (last : Nat) (S : World → Prop) (hm : P.follows .mixedOrders = true) (hch : chainTo .any ops last = true) (hs : Region.noSelect ops = true)
    (hQ : ∀ (d : Tmp) (v : Value) c (a : Act) w, Q (.panic c) { a with tmps := a.tmps.setIfInBounds d v } w → Q (.panic c) a w) (hlen : decide (l.length ≤ ops.size) = true)
    (hok : okSeqL ops last l (Array.replicate ops.size false) = true) (hS : S w.drew) (h : seqL P ops Q S last l a w.drew) : (Code.region id ops true).wp P Q a w :=
  wp_region_any hm (wpAny_of_last _ _ _ _ (seqL_sound hch hs (fun d v c a w h => by cases d with | none => exact h | some d => exact hQ d v c a w h) l ops.size _ a w.drew (Closed.start _) (of_decide_eq_true hlen) hok (fun _ => hS) h))
theorem seqL_nil {a : Act} {w : World} (h : Q .normal a w) : seqL P ops Q S last [] a w := h
theorem seqL_take {i : Nat} {o : Oper} {v : Value} {l : List (Bool × Nat)} {a : Act} {w : World} (ho : ops[i]? = some o) (hw : Region.wanted o (yielded ops a.tmps) = true)
    (hy : ∀ w', S w' → (execOp a.eval o).run P w' = .ok (.value v) w') (h : seqL P ops Q S last l (a.put o.dst v) w) : seqL P ops Q S last ((true, i) :: l) a w := ⟨o, v, ho, .inl ⟨hw, hy⟩, h⟩
theorem seqL_skip {i : Nat} {o : Oper} {l : List (Bool × Nat)} {a : Act} {w : World} (ho : ops[i]? = some o) (hw : Region.wanted o (yielded ops a.tmps) = false)
    (h : seqL P ops Q S last l (a.put o.dst undef) w) : seqL P ops Q S last ((true, i) :: l) a w := ⟨o, undef, ho, .inr ⟨hw, rfl⟩, h⟩
theorem seqL_eff {i : Nat} {o : Oper} {l : List (Bool × Nat)} {a : Act} {w : World} (ho : ops[i]? = some o) (hw : Region.wanted o (yielded ops a.tmps) = true)
    (h : ∀ K : Act → World → Prop, (∀ a' w', (i ≠ last → S w') ∧ seqL P ops Q S last l a' w' → K a' w') → o.wp P a w K Q) : seqL P ops Q S last ((false, i) :: l) a w := by
  show wpOp P ops Q i _ a w
  unfold wpOp
  simp only [ho, hw, if_true]
  exact .inl (h _ fun _ _ h => h)
end
attribute [irreducible] seqL
inductive Plan where
  | nil
  | take (i : Nat) (p : Plan)
  | eff (i : Nat) (p : Plan)
  | two (i : Nat) (p : Plan) (j : Nat) (q : Plan)
def Plan.length : Plan → Nat
  | .nil => 0
  | .take _ p => p.length + 1
  | .eff _ p => p.length + 1
  | .two _ p _ q => max p.length q.length + 1
section
variable {P : Program} {ops : Array Oper} {Q : Exit → Act → World → Prop} {S : World → Prop}
def seqP (P : Program) (ops : Array Oper) (Q : Exit → Act → World → Prop) (S : World → Prop) : Plan → Act → World → Prop
  | .nil, a, w => Q .normal a w
  | .take i p, a, w => ∃ o v, ops[i]? = some o ∧ YieldsIf P ops S o v a ∧ seqP P ops Q S p (a.put o.dst v) w
  | .eff i p, a, w => wpOp P ops Q i (fun a' w' => S w' ∧ seqP P ops Q S p a' w') a w
  | .two i p j q, a, w => wpOp P ops Q i (fun a' w' => S w' ∧ seqP P ops Q S p a' w') a w ∧ wpOp P ops Q j (fun a' w' => S w' ∧ seqP P ops Q S q a' w') a w
def okPlan (ops : Array Oper) : Plan → Array Bool → Bool
  | .nil, listed => (Region.ready .any ops listed).isEmpty
  | .take i p, listed => (Region.ready .any ops listed).contains i && Region.free .any ops listed i && okPlan ops p (listed.setIfInBounds i true)
  | .eff i p, listed => (Region.ready .any ops listed == [i]) && okPlan ops p (listed.setIfInBounds i true)
  | .two i p j q, listed => (Region.ready .any ops listed == [i, j]) && okPlan ops p (listed.setIfInBounds i true) && okPlan ops q (listed.setIfInBounds j true)
theorem seqP_sound (hs : Region.noSelect ops = true) (hQ : ∀ (d : Option Tmp) (v : Value) c a w, Q (.panic c) (a.put d v) w → Q (.panic c) a w) :
    ∀ (l : Plan) (fuel : Nat) (listed : Array Bool) (a : Act) (w : World), l.length ≤ fuel → okPlan ops l listed = true → S w → seqP P ops Q S l a w → wpAnyH P .any ops Q S fuel listed a w
  | .nil, fuel, listed, a, w, _, hok, _, h => by
    refine wpAnyH_done ?_ h fuel
    simpa [okPlan] using hok
  | .take i l, 0, listed, a, w, hl, _, _, _ => by simp [Plan.length] at hl
  | .take i l, fuel + 1, listed, a, w, hl, hok, hS, h => by
    simp only [okPlan, Bool.and_eq_true] at hok
    obtain ⟨o, v, ho, hy, hr⟩ := h
    exact wpAnyH_take ho hs hok.1.2 hok.1.1 (hQ _ _) hy hS (seqP_sound hs hQ l fuel _ _ w (by simp [Plan.length] at hl; omega) hok.2 hS hr)
  | .eff i l, 0, listed, a, w, hl, _, _, _ => by simp [Plan.length] at hl
  | .eff i l, fuel + 1, listed, a, w, hl, hok, hS, h => by
    simp only [okPlan, Bool.and_eq_true, beq_iff_eq] at hok
    refine wpAnyH_all hok.1 (by simp) fun j hj => ?_
    obtain rfl : j = i := by simpa using hj
    exact wpOp_mono (fun a' w' ⟨h1, h2⟩ => ⟨h1, seqP_sound hs hQ l fuel _ a' w' (by simp [Plan.length] at hl; omega) hok.2 h1 h2⟩) h
  | .two i p j q, 0, listed, a, w, hl, _, _, _ => by simp [Plan.length] at hl
  | .two i p j q, fuel + 1, listed, a, w, hl, hok, hS, h => by
    simp only [okPlan, Bool.and_eq_true, beq_iff_eq] at hok
    refine wpAnyH_all hok.1.1 (by simp) fun k hk => ?_
    have hk' : k = i ∨ k = j := by simpa using hk
    rcases hk' with rfl | rfl
    · exact wpOp_mono (fun a' w' ⟨h1, h2⟩ => ⟨h1, seqP_sound hs hQ p fuel _ a' w' (by simp [Plan.length] at hl; omega) hok.1.2 h1 h2⟩) h.1
    · exact wpOp_mono (fun a' w' ⟨h1, h2⟩ => ⟨h1, seqP_sound hs hQ q fuel _ a' w' (by simp [Plan.length] at hl; omega) hok.2 h1 h2⟩) h.2
theorem wp_region_plan {id : Nat} {a : Act} {w : World} (l : Plan) (S : World → Prop) (hm : P.follows .mixedOrders = true) (hs : Region.noSelect ops = true)
    (hQ : ∀ (d : Tmp) (v : Value) c (a : Act) w, Q (.panic c) { a with tmps := a.tmps.setIfInBounds d v } w → Q (.panic c) a w) (hlen : decide (l.length ≤ ops.size) = true)
    (hok : okPlan ops l (Array.replicate ops.size false) = true) (hS : S w.drew) (h : seqP P ops Q S l a w.drew) : (Code.region id ops true).wp P Q a w :=
  wp_region_held hm (seqP_sound hs (fun d v c a w h => by cases d with | none => exact h | some d => exact hQ d v c a w h) l ops.size _ a w.drew (of_decide_eq_true hlen) hok hS h)
theorem seqP_nil {a : Act} {w : World} (h : Q .normal a w) : seqP P ops Q S .nil a w := h
theorem seqP_take {i : Nat} {o : Oper} {v : Value} {l : Plan} {a : Act} {w : World} (ho : ops[i]? = some o) (hw : Region.wanted o (yielded ops a.tmps) = true)
    (hy : ∀ w', S w' → (execOp a.eval o).run P w' = .ok (.value v) w') (h : seqP P ops Q S l (a.put o.dst v) w) : seqP P ops Q S (.take i l) a w := ⟨o, v, ho, .inl ⟨hw, hy⟩, h⟩
theorem seqP_skip {i : Nat} {o : Oper} {l : Plan} {a : Act} {w : World} (ho : ops[i]? = some o) (hw : Region.wanted o (yielded ops a.tmps) = false)
    (h : seqP P ops Q S l (a.put o.dst undef) w) : seqP P ops Q S (.take i l) a w := ⟨o, undef, ho, .inr ⟨hw, rfl⟩, h⟩
theorem wpOp_eff {i : Nat} {o : Oper} {l : Plan} {a : Act} {w : World} (ho : ops[i]? = some o) (hw : Region.wanted o (yielded ops a.tmps) = true)
    (h : ∀ K : Act → World → Prop, (∀ a' w', S w' ∧ seqP P ops Q S l a' w' → K a' w') → o.wp P a w K Q) : wpOp P ops Q i (fun a' w' => S w' ∧ seqP P ops Q S l a' w') a w := by
  unfold wpOp
  simp only [ho, hw, if_true]
  exact .inl (h _ fun _ _ h => h)
theorem seqP_eff {i : Nat} {o : Oper} {l : Plan} {a : Act} {w : World} (ho : ops[i]? = some o) (hw : Region.wanted o (yielded ops a.tmps) = true)
    (h : ∀ K : Act → World → Prop, (∀ a' w', S w' ∧ seqP P ops Q S l a' w' → K a' w') → o.wp P a w K Q) : seqP P ops Q S (.eff i l) a w := wpOp_eff ho hw h
theorem seqP_two {i j : Nat} {o o' : Oper} {p q : Plan} {a : Act} {w : World} (ho : ops[i]? = some o) (ho' : ops[j]? = some o') (hw : Region.wanted o (yielded ops a.tmps) = true) (hw' : Region.wanted o' (yielded ops a.tmps) = true)
    (h : ∀ K : Act → World → Prop, (∀ a' w', S w' ∧ seqP P ops Q S p a' w' → K a' w') → o.wp P a w K Q)
    (h' : ∀ K : Act → World → Prop, (∀ a' w', S w' ∧ seqP P ops Q S q a' w' → K a' w') → o'.wp P a w K Q) : seqP P ops Q S (.two i p j q) a w := ⟨wpOp_eff ho hw h, wpOp_eff ho' hw' h'⟩
theorem wp_append_owns {α : Type} {o : Oper} {a : Act} {w : World} {K : Act → World → Prop} {Q : Exit → Act → World → Prop} (s x : Operand) (t : TypeId)
    (ho : o.op = .call { callee := .builtin .append, args := #[s, x], argTypes := #[t, t] })
    (base : Nat) (e : TypeId) (z : Value) (size bytes : Nat) (enc : α → List Value) (ht : P.underlying t = some (.slice e)) (hi : ElemInfo P e z size bytes)
    (hzs : z.cells.size = size) (hsz : 0 < size) (hen : ∀ x, (enc x).length = size)
    (v : Value) (xs : List α) (hs : a.eval s = v) (hown : Owns w base e size enc v xs)
    (u : Value) (news : List α) (hx : a.eval x = u) (hr : SlR w enc u news) (h1 : ∀ u ∈ news.flatMap enc, u.oneCell' = true)
    (h63 : xs.length + news.length ≤ maxLen) (hbytes : (xs.length + news.length) * bytes ≤ 140737488355328) (hbase : base ≤ w.heap.size)
    (h : ∀ v' w', Owns w' base e size enc v' (xs ++ news) → w.grownBy w' v.ownBlock → K (a.put o.dst v') w') : o.wp P a w K Q := by
  obtain ⟨i, hi0, hz0, hz1, hz2⟩ := info_parts hi
  obtain ⟨A, c, rfl, hc, hA⟩ := hr
  cases A with
  | none =>
    have hn : news = [] := by
      cases news with
      | nil => rfl
      | cons y ys => obtain ⟨b, off, h, _⟩ := hA (by simp); cases h
    subst hn
    have hrun := run_append_nil (P := P) w base t o.type e i size ht hi0 v _ _ hown c
    unfold Oper.wp execOp
    simp only [List.length_nil] at hx
    simp only [ho, resolve, invoke, builtin, Sem.run_bind, Sem.run_pure, Result.andThen_ok, List.map_toArray, List.map_cons, List.map_nil, hs, hx, hrun]
    exact h v w (by simpa using hown) (World.grownBy.refl w _)
  | some ad =>
    refine wp_append_own w s x t ho base e i z size bytes ht hi0 hz0 hz1 hz2 hzs hsz v xs.length _ hs hown ad news.length c (news.flatMap enc) hx (flat_len hen news) (fun j u hu => ?_) h1 h63 hbytes hbase (fun v' w' h2 h3 _ => h v' w' ?_ h3)
    · have hlen : 0 < news.length := by
        cases news with
        | nil => simp at hu
        | cons y ys => simp
      obtain ⟨b, off, hh, _, hcell⟩ := hA hlen
      injection hh with hh
      subst hh
      have e : ((⟨b, off, none⟩ : Addr).add j) = ⟨b, off + j, none⟩ := by unfold Addr.add; split <;> simp_all
      rw [e]
      exact hcell j u hu
    · unfold Owns
      rw [List.length_append, List.flatMap_append]
      exact h2
end
attribute [irreducible] seqP
set_option maxRecDepth 20000
section
variable {w : World} {n0 : Lim} {c mb : Nat} {ns : List Nd}
end
set_option maxRecDepth 20000
set_option maxRecDepth 20000
section
variable {w w' : World} {n0 : Lim} {p c mb : Nat} {room : Int} {ns : List Nd}
end
set_option maxRecDepth 20000
open Go.RowKit Go.Shelf
structure Pe where
  b : Nat
  n : ByteArray
  t : ByteArray
  c : Int
section
variable {w w' : World} {n0 : Lim} {p mb : Nat} {room : Int} {es : List Pe}
end
set_option maxRecDepth 20000
end Go.Proofs.YtgjfhgcjiglfkaaGreatDoor
namespace Go.Proofs.YtgjfhgcjiglfkaaGreatDoor
set_option maxRecDepth 20000
open Go.RowKit
def rotF (a b x : Int) : Int := bits .or .u32 (x * a % 4294967296) (x / b)
set_option maxHeartbeats 1000000 in
theorem rotl_16 (x : Int) (w : World) :
    Calls Tryz.prog 319 #[.int .u32 x, .int .i64 (-16)] w fun e w' => e = .returned (.int .u32 (rotF 65536 65536 x)) ∧ w' = w := by
  have hA : bits .and .u64 (IntKind.u64.wrap (-16)) 31 = 16 := by decide +kernel
  go_enter Tryz.func319, Tryz.ntmps319
  go_wp2_with fail
  go_ret
  exact ⟨rfl, rfl⟩
set_option maxHeartbeats 1000000 in
theorem rotl_12 (x : Int) (w : World) :
    Calls Tryz.prog 319 #[.int .u32 x, .int .i64 (-12)] w fun e w' => e = .returned (.int .u32 (rotF 1048576 4096 x)) ∧ w' = w := by
  have hA : bits .and .u64 (IntKind.u64.wrap (-12)) 31 = 20 := by decide +kernel
  go_enter Tryz.func319, Tryz.ntmps319
  go_wp2_with fail
  go_ret
  exact ⟨rfl, rfl⟩
set_option maxHeartbeats 1000000 in
theorem rotl_8 (x : Int) (w : World) :
    Calls Tryz.prog 319 #[.int .u32 x, .int .i64 (-8)] w fun e w' => e = .returned (.int .u32 (rotF 16777216 256 x)) ∧ w' = w := by
  have hA : bits .and .u64 (IntKind.u64.wrap (-8)) 31 = 24 := by decide +kernel
  go_enter Tryz.func319, Tryz.ntmps319
  go_wp2_with fail
  go_ret
  exact ⟨rfl, rfl⟩
set_option maxHeartbeats 1000000 in
theorem rotl_7 (x : Int) (w : World) :
    Calls Tryz.prog 319 #[.int .u32 x, .int .i64 (-7)] w fun e w' => e = .returned (.int .u32 (rotF 33554432 128 x)) ∧ w' = w := by
  have hA : bits .and .u64 (IntKind.u64.wrap (-7)) 31 = 25 := by decide +kernel
  go_enter Tryz.func319, Tryz.ntmps319
  go_wp2_with fail
  go_ret
  exact ⟨rfl, rfl⟩
def mx4 (vs : Array Value) (i0 i1 i2 i3 : Nat) (a b c d : Int) : Array Value := (((vs.setIfInBounds i0 (.int .u32 a)).setIfInBounds i1 (.int .u32 b)).setIfInBounds i2 (.int .u32 c)).setIfInBounds i3 (.int .u32 d)
structure Four (n i0 i1 i2 i3 : Nat) : Prop where
  h0 : i0 < n
  h1 : i1 < n
  h2 : i2 < n
  h3 : i3 < n
  n01 : i0 ≠ i1
  n02 : i0 ≠ i2
  n03 : i0 ≠ i3
  n12 : i1 ≠ i2
  n13 : i1 ≠ i3
  n23 : i2 ≠ i3
theorem setIf_same (xs : Array Value) (i : Nat) (a b : Value) : (xs.setIfInBounds i a).setIfInBounds i b = xs.setIfInBounds i b := by
  apply Array.ext_getElem?; intro j; simp only [Array.getElem?_setIfInBounds, Array.size_setIfInBounds]; split <;> rfl
theorem setIf_comm (xs : Array Value) {i j : Nat} (h : i ≠ j) (a b : Value) : (xs.setIfInBounds i a).setIfInBounds j b = (xs.setIfInBounds j b).setIfInBounds i a := by
  apply Array.ext_getElem?; intro k; simp only [Array.getElem?_setIfInBounds, Array.size_setIfInBounds]
  by_cases h1 : i = k
  · subst h1
    rw [if_neg (fun e => h e.symm), if_pos rfl, if_pos rfl]
  · rw [if_neg h1, if_neg h1]
section
variable {vs : Array Value} {i0 i1 i2 i3 : Nat} {a b c d : Int}
theorem mx4_a (h : Four vs.size i0 i1 i2 i3) : (mx4 vs i0 i1 i2 i3 a b c d)[i0]? = some (.int .u32 a) := by
  obtain ⟨h0, h1, h2, h3, n01, n02, n03, n12, n13, n23⟩ := h
  unfold mx4; grind
theorem mx4_b (h : Four vs.size i0 i1 i2 i3) : (mx4 vs i0 i1 i2 i3 a b c d)[i1]? = some (.int .u32 b) := by
  obtain ⟨h0, h1, h2, h3, n01, n02, n03, n12, n13, n23⟩ := h
  unfold mx4; grind
theorem mx4_c (h : Four vs.size i0 i1 i2 i3) : (mx4 vs i0 i1 i2 i3 a b c d)[i2]? = some (.int .u32 c) := by
  obtain ⟨h0, h1, h2, h3, n01, n02, n03, n12, n13, n23⟩ := h
  unfold mx4; grind
theorem mx4_d (h : Four vs.size i0 i1 i2 i3) : (mx4 vs i0 i1 i2 i3 a b c d)[i3]? = some (.int .u32 d) := by
  obtain ⟨h0, h1, h2, h3, n01, n02, n03, n12, n13, n23⟩ := h
  unfold mx4; grind
theorem mx4_setA (h : Four vs.size i0 i1 i2 i3) (u : Int) : (mx4 vs i0 i1 i2 i3 a b c d).setIfInBounds i0 (.int .u32 u) = mx4 vs i0 i1 i2 i3 u b c d := by
  unfold mx4; rw [setIf_comm _ h.n03.symm, setIf_comm _ h.n02.symm, setIf_comm _ h.n01.symm, setIf_same]
theorem mx4_setB (h : Four vs.size i0 i1 i2 i3) (u : Int) : (mx4 vs i0 i1 i2 i3 a b c d).setIfInBounds i1 (.int .u32 u) = mx4 vs i0 i1 i2 i3 a u c d := by
  unfold mx4; rw [setIf_comm _ h.n13.symm, setIf_comm _ h.n12.symm, setIf_same]
theorem mx4_setC (h : Four vs.size i0 i1 i2 i3) (u : Int) : (mx4 vs i0 i1 i2 i3 a b c d).setIfInBounds i2 (.int .u32 u) = mx4 vs i0 i1 i2 i3 a b u d := by
  unfold mx4; rw [setIf_comm _ h.n23.symm, setIf_same]
theorem mx4_setD (u : Int) : (mx4 vs i0 i1 i2 i3 a b c d).setIfInBounds i3 (.int .u32 u) = mx4 vs i0 i1 i2 i3 a b c u := by
  unfold mx4; rw [setIf_same]
theorem mx4_self (h0 : vs[i0]? = some (.int .u32 a)) (h1 : vs[i1]? = some (.int .u32 b)) (h2 : vs[i2]? = some (.int .u32 c)) (h3 : vs[i3]? = some (.int .u32 d)) : mx4 vs i0 i1 i2 i3 a b c d = vs := by
  unfold mx4; apply Array.ext_getElem?; intro j; grind
end
theorem set_grown (W : World) (b i : Nat) (v : Value) : W.grownBy (W.setCell ⟨b, i, none⟩ v) (some b) :=
  ⟨rfl, rfl, rfl, by simp [World.setCell], fun k _ hne => Below.heap_setCell _ _ _ _ (fun e => hne (by rw [e]))⟩
structure Mx (w0 w : World) (g : Nat) (t : TypeId) (vs : Array Value) (i0 i1 i2 i3 : Nat) (a b c d : Int) : Prop where
  blk : Blk w g t (mx4 vs i0 i1 i2 i3 a b c d)
  four : Four vs.size i0 i1 i2 i3
  gr : w0.grownBy w (some g)
section
variable {w0 w : World} {g : Nat} {t : TypeId} {vs : Array Value} {i0 i1 i2 i3 : Nat} {a b c d : Int}
theorem Mx.ata (h : Mx w0 w g t vs i0 i1 i2 i3 a b c d) : w.cell? ⟨g, i0, none⟩ = some (.int .u32 a) := (h.blk.cell i0).trans (mx4_a h.four)
theorem Mx.atb (h : Mx w0 w g t vs i0 i1 i2 i3 a b c d) : w.cell? ⟨g, i1, none⟩ = some (.int .u32 b) := (h.blk.cell i1).trans (mx4_b h.four)
theorem Mx.atc (h : Mx w0 w g t vs i0 i1 i2 i3 a b c d) : w.cell? ⟨g, i2, none⟩ = some (.int .u32 c) := (h.blk.cell i2).trans (mx4_c h.four)
theorem Mx.atd (h : Mx w0 w g t vs i0 i1 i2 i3 a b c d) : w.cell? ⟨g, i3, none⟩ = some (.int .u32 d) := (h.blk.cell i3).trans (mx4_d h.four)
theorem grow_set {w0 w : World} {g : Nat} (h : w0.grownBy w (some g)) (i : Nat) (v : Value) : w0.grownBy (w.setCell ⟨g, i, none⟩ v) (some g) :=
  ⟨h.os, h.tape, h.output, by have := h.size; simpa [World.setCell] using this, fun k hk hne => (Below.heap_setCell _ _ _ _ (fun e => hne (by rw [e]))).trans (h.block k hk hne)⟩
theorem Mx.drew (h : Mx w0 w g t vs i0 i1 i2 i3 a b c d) : Mx w0 w.drew g t vs i0 i1 i2 i3 a b c d := ⟨h.blk, h.four, ⟨h.gr.os, h.gr.tape, h.gr.output, h.gr.size, h.gr.block⟩⟩
theorem Mx.drewN (h : Mx w0 w g t vs i0 i1 i2 i3 a b c d) (n : Nat) : Mx w0 (w.drewN n) g t vs i0 i1 i2 i3 a b c d := ⟨h.blk, h.four, ⟨h.gr.os, h.gr.tape, h.gr.output, h.gr.size, h.gr.block⟩⟩
theorem Mx.setA (h : Mx w0 w g t vs i0 i1 i2 i3 a b c d) (u : Int) : Mx w0 (w.setCell ⟨g, i0, none⟩ (.int .u32 u)) g t vs i0 i1 i2 i3 u b c d :=
  ⟨by rw [← mx4_setA h.four]; exact h.blk.set_ i0 _, h.four, grow_set h.gr i0 _⟩
theorem Mx.setB (h : Mx w0 w g t vs i0 i1 i2 i3 a b c d) (u : Int) : Mx w0 (w.setCell ⟨g, i1, none⟩ (.int .u32 u)) g t vs i0 i1 i2 i3 a u c d :=
  ⟨by rw [← mx4_setB h.four]; exact h.blk.set_ i1 _, h.four, grow_set h.gr i1 _⟩
theorem Mx.setC (h : Mx w0 w g t vs i0 i1 i2 i3 a b c d) (u : Int) : Mx w0 (w.setCell ⟨g, i2, none⟩ (.int .u32 u)) g t vs i0 i1 i2 i3 a b u d :=
  ⟨by rw [← mx4_setC h.four]; exact h.blk.set_ i2 _, h.four, grow_set h.gr i2 _⟩
theorem Mx.setD (h : Mx w0 w g t vs i0 i1 i2 i3 a b c d) (u : Int) : Mx w0 (w.setCell ⟨g, i3, none⟩ (.int .u32 u)) g t vs i0 i1 i2 i3 a b c u :=
  ⟨by rw [← mx4_setD]; exact h.blk.set_ i3 _, h.four, grow_set h.gr i3 _⟩
end
def mixF (a b c d x y : Int) : Int × Int × Int × Int :=
  let a1 := IntKind.u32.wrap (a + IntKind.u32.wrap (b + x))
  let d1 := rotF 65536 65536 (bits .xor .u32 d a1)
  let c1 := IntKind.u32.wrap (c + d1)
  let b1 := rotF 1048576 4096 (bits .xor .u32 b c1)
  let a2 := IntKind.u32.wrap (a1 + IntKind.u32.wrap (b1 + y))
  let d2 := rotF 16777216 256 (bits .xor .u32 d1 a2)
  let c2 := IntKind.u32.wrap (c1 + d2)
  let b2 := rotF 33554432 128 (bits .xor .u32 b1 c2)
  (a2, b2, c2, d2)
end Go.Proofs.YtgjfhgcjiglfkaaGreatDoor
