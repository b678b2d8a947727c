/- control's Parse: what it answers. -/
import Derived.Test.YtiijgbgknolmcaaDoorCtlP
namespace Go.Proofs.YtiijgbgknolmcaaDoor
set_option maxRecDepth 20000
open Go.RowKit
theorem dirInfo : ElemInfo Tryd.prog 79 (.agg #[.string ByteArray.empty, .bool false, .string ByteArray.empty]) 3 40 := by unfold ElemInfo; kernel_rfl
theorem sbs_one (l : List Dr) : ∀ u ∈ l.flatMap e_sbs, u.oneCell' = true := by
  intro u hu
  obtain ⟨d, _, hd⟩ := List.mem_flatMap.1 hu
  simp only [e_sbs, List.mem_cons, List.not_mem_nil, or_false] at hd
  rcases hd with rfl | rfl | rfl <;> rfl
def ParseAns (T : TypeId) (base : Nat) (s : ByteArray) (e : Ending) (w' : World) : Prop :=
  (∃ (ps : List (List UInt8)) (ds : List Dr) (v : Value), Tok.splitL (sl s) = .ok ps ∧ (ps.map mkS).map dirD = ds.map some ∧ e = .returned (.tuple #[v, .int .i64 0]) ∧ Owns w' base T 3 e_sbs v ds) ∨
  (∃ c : Int, 1 ≤ c ∧ c ≤ 3 ∧ e = .returned (.tuple #[.slice none 0 0, .int .i64 c]) ∧ (∀ (ps : List (List UInt8)) (ds : List Dr), Tok.splitL (sl s) = .ok ps → (ps.map mkS).map dirD = ds.map some → False) ∧ ∀ c', Tok.splitL (sl s) = .error c' → c' = c)
theorem split_code {l : List UInt8} {c : Int} (h : Tok.splitL l = .error c) : 2 ≤ c ∧ c ≤ 3 := by
  unfold Tok.splitL at h
  split at h
  · injection h with h; omega
  · split at h
    · injection h with h; omega
    · split at h
      · injection h with h; omega
      · cases h
set_option maxHeartbeats 1600000 in
theorem parse_any (s : ByteArray) (w : World) (hs : s.size ≤ 140737488351232) :
    Calls Tryd.prog 25 #[.string s] w fun e w' => ParseAns 79 w.heap.size s e w' ∧ Below w.heap.size w w' := by
  have HS := Lib.hid (split_any s)
  unfold ParseAns
  go_enter Tryd.func25, Tryd.ntmps25
  go_wp2_with fail
  refine (HS.out _ hs).mono ?_
  rintro e w1 ⟨hans, hb1⟩
  unfold SplitAns at hans
  cases hsp : Tok.splitL (sl s) with
  | error c =>
    rw [hsp] at hans
    dsimp only at hans
    subst hans
    have hc := split_code hsp
    have hne : ((c : Int) != 0) = true := by simp; omega
    go_wp2_with fail
    go_ret2
    exact ⟨.inr ⟨c, by omega, by omega, rfl, (fun ps ds h _ => by rw [hsp] at h; cases h), fun c' h => by rw [hsp] at h; injection h with h; exact h.symm⟩, hb1⟩
  | ok ps =>
    rw [hsp] at hans
    dsimp only at hans
    obtain ⟨v, rfl, hown⟩ := hans
    obtain ⟨hps1, hps2, -⟩ := Tok.split_short hsp
    have hr := SlR.of_owns hown
    have hsz : ∀ t ∈ ps.map mkS, t.size ≤ 1000 := by
      intro t ht
      obtain ⟨p, hp, rfl⟩ := List.mem_map.1 ht
      rw [mkS_size]; exact hps1 p hp
    have hl : (ps.map mkS).length ≤ 20 := by rw [List.length_map]; exact hps2
    have HPS : Hid (∀ (ds : List Dr) (P : Prop), ((ps.map mkS).map dirD = ds.map some → P) → ∀ (qs : List (List UInt8)), Tok.splitL (sl s) = .ok qs → (qs.map mkS).map dirD = ds.map some → P) := by
      intro ds P h qs hq hd
      rw [hsp] at hq
      injection hq with hq; subst hq; exact h hd
    have HEX : Hid (∀ ds : List Dr, (ps.map mkS).map dirD = ds.map some → ∃ qs : List (List UInt8), Tok.splitL (sl s) = .ok qs ∧ (qs.map mkS).map dirD = ds.map some) := fun ds h => ⟨ps, hsp, h⟩
    have HNE : Hid (∀ c', Tok.splitL (sl s) = .error c' → False) := by intro c' h; rw [hsp] at h; cases h
    generalize ps.map mkS = xs at *
    clear hown hsp hps1 hps2
    have HX := Lib.hid (fun (hn : 0 < xs.length) => hr.texts hn)
    obtain ⟨A, c, rfl, hcap, -⟩ := hr
    go_wp2_with fail
    go_loopw [6, 21] (fun o i wr => ∃ (k : Nat) (ds : List Dr), k ≤ xs.length ∧ i = .int .i64 k ∧ (xs.take k).map dirD = ds.map some ∧ Owns wr w1.heap.size 79 3 e_sbs o ds ∧ Below w1.heap.size w1 wr) (fun _ i _ => xs.length - (intOf i).toNat)
    case atStart => exact ⟨0, [], by omega, rfl, rfl, Owns.nil _ _ _ _ _, Below.refl _ _⟩
    case round =>
      obtain ⟨k, ds, hk, rfl, hds, hown, hbel⟩ := hrel
      have hdl : ds.length = k := by have := congrArg List.length hds; simp at this; omega
      have HDS := Lib.hid hds
      clear hds
      have HO := Lib.hid hown
      obtain ⟨A2, c2, hv⟩ := hown.slice
      subst hv
      clear hown
      by_cases hlt : k < xs.length
      · obtain ⟨b, off, c', he, _, hbb, hcell⟩ := HX.out (by omega)
        obtain ⟨rfl, rfl⟩ : A = some ⟨b, off, none⟩ ∧ c = c' := by injection he with h1 h2 h3; exact ⟨h1, h3⟩
        have c0 := (hbel.cell (p := ⟨b, off + k, none⟩) hbb).trans (hcell k hlt)
        have hT : Hid ((xs.take (k + 1)).map dirD = ds.map some ++ [dirD xs[k]]) := by show _ = _; rw [List.take_add_one, List.getElem?_eq_getElem hlt, List.map_append, HDS.out]; rfl
        have hN : Hid (dirD xs[k] = none → ∀ zs : List Dr, xs.map dirD = zs.map some → False) := by
          intro h zs hx
          have h1 := congrArg (fun z => z[k]?) hx
          simp only [List.getElem?_map, List.getElem?_eq_getElem hlt, Option.map_some, h] at h1
          cases hxk : zs[k]? <;> rw [hxk] at h1 <;> simp at h1
        have hzz := hsz xs[k] (List.getElem_mem hlt)
        clear hcell he
        generalize xs[k] = p at *
        have hA := Lib.hid (fun w => directive_any p w hzz)
        clear hzz
        subst hdl
        go_wp2_with fail
        refine (hA.out _).mono ?_
        rintro e w2 ⟨ha, b2⟩
        have hb12 : Below w1.heap.size w1 w2 := hbel.trans (b2.mono hbel.size)
        have HO2 := Lib.hid (HO.out.below b2)
        clear b2
        rcases ha with ⟨d, h1, rfl⟩ | ⟨h1, d, rfl⟩
        · have HS2 : Hid ((xs.take (ds.length + 1)).map dirD = (ds ++ [d]).map some) := by show _ = _; rw [hT.out, h1]; simp
          clear h1
          obtain ⟨n, hh, a⟩ := d
          rw [show vDr (n, hh, a) = .agg #[.string n, .bool hh, .string a] from rfl]
          have HNC : ∀ j u, [Value.string n, .bool hh, .string a][j]? = some u → ((w2.alloc (.cells #[.string n, .bool hh, .string a] 79)).alloc (.cells #[.string n, .bool hh, .string a] 79)).cell? ((⟨w2.heap.size + 1, 0, none⟩ : Addr).add j) = some u := by
            have := new_cells (w2.alloc (.cells #[.string n, .bool hh, .string a] 79)) [.string n, .bool hh, .string a] 79
            rwa [show (w2.alloc (.cells #[.string n, .bool hh, .string a] 79)).heap.size = w2.heap.size + 1 from by simp] at this
          have hb2 : Below w1.heap.size w1 (w2.alloc (.cells #[.string n, .bool hh, .string a] 79)) := hb12.alloc hb12.size _
          go_wp2_with (at_builtin; go_must (refine wpList_append_owns rfl (.tmp 32) (.tmp 34) _ rfl w1.heap.size 79 (.agg #[.string ByteArray.empty, .bool false, .string ByteArray.empty]) 3 40 e_sbs Tryd.underlying54 dirInfo rfl (by decide) _ ds rfl ((HO2.out.alloc _).alloc _) ⟨w2.heap.size + 1, 0, none⟩ 1 1 [(n, hh, a)] rfl rfl rfl HNC (sbs_one _) (by simp only [maxLen]; omega) (by omega) (bel_size hb2 (Nat.le_refl _) _) ?_); intro v3 w3 hown3 hg3)
          go_roundw
          case rel => exact ⟨ds.length + 1, ds ++ [(n, hh, a)], by omega, by go_num, HS2.out, hown3, (hb2.alloc hb2.size _).grown hg3 (bel_size hb2 (Nat.le_refl _) _) (fun k hk => (HO2.out.lt k hk).1)⟩
          case measure => simp [intOf]; omega
        · have HF := Lib.hid (hN.out h1)
          clear h1
          obtain ⟨n, hh, a⟩ := d
          rw [show vDr (n, hh, a) = .agg #[.string n, .bool hh, .string a] from rfl]
          go_wp2_with fail
          go_ret2
          exact ⟨.inr ⟨3, by omega, by omega, rfl, fun qs zs hq hz => HPS.out zs False (HF.out zs) qs hq hz, fun c' h => (HNE.out c' h).elim⟩, hb1.trans ((hb12.alloc hb12.size _).mono hb1.size)⟩
      · subst hdl
        have hE : xs.take ds.length = xs := List.take_of_length_le (by omega)
        have hTS : Hid (xs.map dirD = ds.map some) := by have := HDS.out; rw [hE] at this; exact this
        clear hE
        go_wp2_with fail
        go_ret2
        obtain ⟨qs, h1, h2⟩ := HEX.out ds hTS.out
        exact ⟨.inl ⟨qs, ds, _, h1, h2, rfl, HO.out.mono hb1.size⟩, hb1.trans (hbel.mono hb1.size)⟩
end Go.Proofs.YtiijgbgknolmcaaDoor
