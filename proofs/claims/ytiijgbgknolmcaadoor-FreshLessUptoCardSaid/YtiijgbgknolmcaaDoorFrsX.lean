/- FreshLess: the plain law. -/
import Derived.Test.YtiijgbgknolmcaaDoorFrsT
import Derived.Test.YtiijgbgknolmcaaDoorShelf
import Derived.Test.YtiijgbgknolmcaaDoorFrsT2
namespace Go.Proofs.YtiijgbgknolmcaaDoor
set_option maxRecDepth 20000
open Go.RowKit
namespace Fr
theorem cut_open : ∀ (n : Nat) (d cur : List UInt8), d.length ≤ n → (d.all fun c => !(c == 34)) = true → Tok.cutL 44 true cur d = none
  | _, [], cur, _, _ => by unfold Tok.cutL; rfl
  | 0, c :: d, cur, h, _ => by simp at h
  | n + 1, c :: d, cur, h, ha => by
    rw [List.all_cons, Bool.and_eq_true] at ha
    have h34 : (c == 34) = false := by simpa using ha.1
    simp only [List.length_cons] at h
    unfold Tok.cutL
    rw [h34, if_neg (by simp)]
    by_cases hc : c == 92
    · rw [if_pos (by simp [hc])]
      cases d with
      | nil => rfl
      | cons e d =>
        rw [List.all_cons, Bool.and_eq_true] at ha
        simp only [List.length_cons] at h
        exact cut_open n d _ (by omega) ha.2.2
    · rw [if_neg (by simp [hc]), if_neg (by simp)]
      exact cut_open n d _ (by omega) ha.2
theorem cut_app (d : List UInt8) (hd : (d.all fun c => !(c == 34)) = true) (h1 : Tok.cutL 44 false [] d = some [d]) : ∀ (n : Nat) (s : List UInt8) (q : Bool) (cur : List UInt8) (ps : List (List UInt8)), s.length ≤ n → Tok.cutL 44 q cur (s ++ 44 :: d) = some ps → ∃ qs, Tok.cutL 44 q cur s = some qs ∧ ps = qs ++ [d]
  | _, [], q, cur, ps, _, h => by
    have hd' : ((44 :: d).all fun c => !(c == 34)) = true := by rw [List.all_cons, hd]; rfl
    cases q
    · rw [List.nil_append, Tok.cutL_sign _ _ _ _ rfl rfl, h1] at h
      simp only [Option.map_some, Option.some.injEq] at h
      exact ⟨[cur], by unfold Tok.cutL; rfl, by rw [← h]; rfl⟩
    · rw [List.nil_append, cut_open _ _ _ (Nat.le_refl _) hd'] at h; cases h
  | 0, c :: s, q, cur, ps, hn, _ => by simp at hn
  | n + 1, c :: s, q, cur, ps, hn, h => by
    simp only [List.length_cons] at hn
    rw [List.cons_append] at h
    unfold Tok.cutL at h ⊢
    by_cases c1 : (c == 34) = true
    · rw [if_pos c1] at h ⊢
      exact cut_app d hd h1 n s _ _ _ (by omega) h
    · rw [if_neg c1] at h ⊢
      by_cases c2 : (q && c == 92) = true
      · rw [if_pos c2] at h ⊢
        have hq : q = true := by cases q <;> simp_all
        subst hq
        cases s with
        | nil =>
          simp only [List.nil_append] at h
          rw [cut_open _ _ _ (Nat.le_refl _) hd] at h; cases h
        | cons e s =>
          simp only [List.cons_append] at h
          simp only [List.length_cons] at hn
          exact cut_app d hd h1 n s _ _ _ (by omega) h
      · rw [if_neg c2] at h ⊢
        by_cases c3 : (!q && c == 44) = true
        · rw [if_pos c3] at h ⊢
          cases hc : Tok.cutL 44 false [] (s ++ 44 :: d) with
          | none => rw [hc] at h; cases h
          | some rs =>
            rw [hc] at h
            simp only [Option.map_some, Option.some.injEq] at h
            obtain ⟨qs, e1, e2⟩ := cut_app d hd h1 n s _ _ _ (by omega) hc
            exact ⟨cur :: qs, by rw [e1]; rfl, by rw [← h, e2]; rfl⟩
        · rw [if_neg c3] at h ⊢
          exact cut_app d hd h1 n s _ _ _ (by omega) h
theorem cut_one {p : ByteArray} {d : Dr} (h : Dir p d) : Tok.cutL 44 false [] (sl p) = some [sl p] := by
  have := h.cut [] []
  rw [List.append_nil, List.nil_append] at this
  rw [this]; unfold Tok.cutL; rfl
/-- A directive at the end. -/
theorem dirs_app {s p : ByteArray} {dd : Dr} (hp : Dir p dd) (h34 : ((sl p).all fun c => !(c == 34)) = true) {ds' : List Dr} (h : dirsOf (s ++ ⟨#[44]⟩ ++ p) = some ds') : ds' = dirsD s ++ [dd] := by
  have e : sl (s ++ ⟨#[44]⟩ ++ p) = sl s ++ 44 :: sl p := by rw [sl_append, sl_append]; simp [sl]
  unfold dirsOf at h
  rw [e] at h
  cases hs : Tok.splitL (sl s ++ 44 :: sl p) with
  | error x => rw [hs] at h; cases h
  | ok ps =>
    rw [hs] at h
    dsimp only at h
    have h3 := allSome_some h
    unfold Tok.splitL at hs
    split at hs
    · cases hs
    · rename_i hlen
      cases hc : Tok.cutL 44 false [] (sl s ++ 44 :: sl p) with
      | none => rw [hc] at hs; cases hs
      | some rs =>
        rw [hc] at hs
        dsimp only at hs
        split at hs
        · cases hs
        · rename_i h20
          injection hs with hs
          obtain ⟨qs, e1, e2⟩ := cut_app (sl p) h34 (cut_one hp) _ _ _ _ _ (Nat.le_refl _) hc
          have e3 : (rs.map Tok.trimL).filter (fun p => !p.isEmpty) = (qs.map Tok.trimL).filter (fun p => !p.isEmpty) ++ [sl p] := by
            rw [e2, List.map_append, List.filter_append, List.map_cons, List.map_nil, hp.trim.2, List.filter_cons, hp.some]; rfl
          rw [e3] at hs h20
          have hsp : Tok.splitL (sl s) = .ok ((qs.map Tok.trimL).filter (fun p => !p.isEmpty)) := by
            unfold Tok.splitL
            rw [if_neg (by rw [List.length_append] at hlen; omega), e1]
            dsimp only
            rw [if_neg (by rw [List.length_append] at h20; omega)]
          have hds : ds'.length = ((qs.map Tok.trimL).filter (fun p => !p.isEmpty)).length + 1 := by
            have := congrArg List.length h3
            rw [← hs] at this
            simp only [List.length_map, List.length_append, List.length_cons, List.length_nil] at this ⊢; omega
          generalize (qs.map Tok.trimL).filter (fun p => !p.isEmpty) = Q at *
          rw [← hs, List.map_append, List.map_append, List.map_cons, List.map_nil, List.map_cons, List.map_nil, mkS_sl, hp.read] at h3
          have h4 : (Q.map mkS).map dirD = (ds'.take Q.length).map some := by
            have := congrArg (List.take Q.length) h3
            rw [List.take_left' (by simp), ← List.map_take] at this
            exact this
          have h5 : [some dd] = (ds'.drop Q.length).map some := by
            have := congrArg (List.drop Q.length) h3
            rw [List.drop_left' (by simp), ← List.map_drop] at this
            exact this
          have h6 : dirsD s = ds'.take Q.length := by
            unfold dirsD dirsOf
            rw [hsp]
            dsimp only
            rw [h4, allSome_map]
          have h7 : ds'.drop Q.length = [dd] := by
            cases hdr : ds'.drop Q.length with
            | nil => rw [hdr] at h5; cases h5
            | cons x r =>
              rw [hdr] at h5
              simp only [List.map_cons, List.cons.injEq, Option.some.injEq] at h5
              obtain ⟨rfl, h8⟩ := h5
              cases r with
              | nil => rfl
              | cons y r => cases h8
          rw [h6, ← h7, List.take_append_drop]
/-! ### One directive more. -/
theorem find_app (ds : List Dr) (dd : Dr) (n : ByteArray) : findD (ds ++ [dd]) n = (findD ds n).or (if (dd.1.toList == n.toList) = true then some dd else none) := by
  unfold findD
  rw [List.find?_append]
  congr 1
  rw [List.find?_cons]
  cases (dd.1.toList == n.toList) <;> rfl
theorem find_ne {ds : List Dr} {dd : Dr} {n : ByteArray} (h : (dd.1.toList == n.toList) = false) : findD (ds ++ [dd]) n = findD ds n := by
  rw [find_app, h, if_neg (by simp)]; simp
theorem has_mono {ds : List Dr} (dd : Dr) {n : ByteArray} (h : hasD ds n = true) : hasD (ds ++ [dd]) n = true := by
  unfold hasD at *
  rw [find_app, Option.isSome_or, h]; rfl
theorem sec_mono {ds : List Dr} (dd : Dr) {n : ByteArray} (h : (secD ds n).2 = true) : secD (ds ++ [dd]) n = secD ds n := by
  unfold secD at *
  cases hf : findD ds n with
  | none => rw [hf] at h; cases h
  | some x => rw [find_app, hf]; rfl
theorem tail_ne (asks : List Dr) : tailF asks ≠ 1 := by unfold tailF; split <;> decide
theorem use_one (asks says : List Dr) (li ag : Int) : useF asks says li ag = 1 ↔ ¬ (hasD asks nNC = true ∨ hasD says nNC = true) ∧ ¬ ((secD asks nMA).2 = true ∧ ((secD asks nMA).1 : Int) < ag) ∧ ¬ ((secD asks nMF).2 = true ∧ li - ag < ((secD asks nMF).1 : Int)) ∧ (ag < li ∨ (boundF says = false ∧ staleF asks (ag - li) = true)) := by
  have ht := tail_ne asks
  unfold useF
  split
  · rename_i h; exact ⟨fun e => absurd e ht, fun e => absurd h e.1⟩
  split
  · rename_i h; exact ⟨fun e => absurd e ht, fun e => absurd h e.2.1⟩
  split
  · rename_i h; exact ⟨fun e => absurd e ht, fun e => absurd h e.2.2.1⟩
  split
  · rename_i h1 h2 h3 h4; exact ⟨fun _ => ⟨h1, h2, h3, h4⟩, fun _ => rfl⟩
  · rename_i h; exact ⟨fun e => absurd e ht, fun e => absurd e.2.2.2 h⟩
theorem use_two (asks says : List Dr) (li ag : Int) : useF asks says li ag = 1 ∨ useF asks says li ag = tailF asks := by
  unfold useF
  repeat' split
  all_goals simp
theorem stale_ne {ds : List Dr} {dd : Dr} (h : (dd.1.toList == nMS.toList) = false) (k : Int) : staleF (ds ++ [dd]) k = staleF ds k := by unfold staleF; rw [find_ne h]
theorem use_less {ds : List Dr} {dd : Dr} (h : (dd.1.toList == nMS.toList) = false) {says : List Dr} {li ag : Int} (hu : useF (ds ++ [dd]) says li ag = 1) : useF ds says li ag = 1 := by
  rw [use_one] at *
  obtain ⟨h1, h2, h3, h4⟩ := hu
  rw [stale_ne h] at h4
  refine ⟨fun e => h1 (e.imp (has_mono dd) id), fun e => h2 ?_, fun e => h3 ?_, h4⟩
  · rw [sec_mono dd e.1]; exact e
  · rw [sec_mono dd e.1]; exact e
theorem use_nc {ds : List Dr} {dd : Dr} (h : (dd.1.toList == nNC.toList) = true) (says : List Dr) (li ag : Int) : useF (ds ++ [dd]) says li ag ≠ 1 := by
  intro e
  rw [use_one] at e
  refine e.1 (.inl ?_)
  unfold hasD
  rw [find_app, h, if_pos rfl, Option.isSome_or]; simp
theorem use_oc {ds : List Dr} {dd : Dr} (h : (dd.1.toList == nOC.toList) = true) (h1 : (dd.1.toList == nNC.toList) = false) (h2 : (dd.1.toList == nMA.toList) = false) (h3 : (dd.1.toList == nMF.toList) = false) (h4 : (dd.1.toList == nMS.toList) = false) (says : List Dr) (li ag : Int) :
    (useF (ds ++ [dd]) says li ag = 1 ↔ useF ds says li ag = 1) ∧ useF (ds ++ [dd]) says li ag ≠ 2 := by
  have e1 : hasD (ds ++ [dd]) nNC = hasD ds nNC := by unfold hasD; rw [find_ne h1]
  have e2 : secD (ds ++ [dd]) nMA = secD ds nMA := by unfold secD; rw [find_ne h2]
  have e3 : secD (ds ++ [dd]) nMF = secD ds nMF := by unfold secD; rw [find_ne h3]
  refine ⟨by rw [use_one, use_one, e1, e2, e3, stale_ne h4], ?_⟩
  have hoc : hasD (ds ++ [dd]) nOC = true := by unfold hasD; rw [find_app, h, if_pos rfl, Option.isSome_or]; simp
  have ht : tailF (ds ++ [dd]) = 3 := by unfold tailF; rw [if_pos hoc]
  rcases use_two (ds ++ [dd]) says li ag with e | e <;> rw [e]
  · decide
  · rw [ht]; decide
end Fr
end Go.Proofs.YtiijgbgknolmcaaDoor
/- FreshLess: the law's walk. -/
namespace Go.Proofs.YtiijgbgknolmcaaDoor
set_option maxRecDepth 20000
open Go.RowKit
open Fr
namespace Fr
def mfS (a : Nat) : ByteArray := ⟨#[109, 105, 110, 45, 102, 114, 101, 115, 104, 61]⟩ ++ digS a
def lessT (n : Nat) : List ByteArray := [maxS n, mfS n, nNC, nOC]
def lessD (n : Nat) : List Dr := [(nMA, true, digS n), (nMF, true, digS n), (nNC, false, ByteArray.empty), (nOC, false, ByteArray.empty)]
theorem mf_dir (a : Nat) : Dir (mfS a) (nMF, true, digS a) :=
  ⟨by kernel_rfl, by kernel_rfl, .inr (.inl ⟨rfl, by unfold mfS; rw [sl_append]; rfl, digS_tok a⟩)⟩
theorem nc_dir : Dir nNC (nNC, false, ByteArray.empty) := ⟨by kernel_rfl, by kernel_rfl, .inl ⟨rfl, rfl, rfl⟩⟩
theorem oc_dir : Dir nOC (nOC, false, ByteArray.empty) := ⟨by kernel_rfl, by kernel_rfl, .inl ⟨rfl, rfl, rfl⟩⟩
theorem dig_34 (n : Nat) : ((digL n).all fun c => !(c == 34)) = true := by
  rw [List.all_eq_true]
  intro c hc
  have h := List.all_eq_true.1 (digL_dig n) c hc
  by_cases e : c = 34
  · subst e; exact absurd h (by decide)
  · simpa using e
theorem dig_last (n : Nat) : ∃ b, (digL n).getLast? = some b ∧ b ≠ 101 ∧ b ≠ 100 := by
  have h0 : ∀ d : Fin 10, UInt8.ofNat (48 + d.val) ≠ 101 ∧ UInt8.ofNat (48 + d.val) ≠ 100 := by decide +kernel
  by_cases h : n < 10
  · rw [digL_lt h]; exact ⟨_, rfl, h0 ⟨n, h⟩⟩
  · rw [digL_ge h, List.getLast?_append]; exact ⟨_, rfl, h0 ⟨n % 10, by omega⟩⟩
theorem suf_last {l p : List UInt8} {x y : UInt8} (hl : l.getLast? = some x) (hp : p.getLast? = some y) (h : x ≠ y) : Lib.hasSuffix l p = false := by
  cases hs : Lib.hasSuffix l p with
  | false => rfl
  | true =>
    unfold Lib.hasSuffix at hs
    rw [List.isSuffixOf_iff_suffix] at hs
    obtain ⟨t, rfl⟩ := hs
    rw [List.getLast?_append, hp] at hl
    simp only [Option.some_or, Option.some.injEq] at hl
    exact absurd hl.symm h
/-- What the law asks of one round. -/
def StepOk (s1 s2 : Bool) (r' r : Int) : Prop := (s1 = true → r' ≠ 1) ∧ (r' = 1 → r = 1) ∧ (s2 = true → (r' = 1 ↔ r = 1) ∧ r' ≠ 2)
theorem less_step (n : Nat) (k : Nat) (hk : k < (lessT n).length) (l0 : List Fld) (says : List Dr) (li ag : Int) (ds' : List Dr) (h : dirsOf (txt l0 nCC ++ ⟨#[44]⟩ ++ (lessT n)[k]) = some ds') (X : ByteArray)
    (hX : X = if isR l0 nCC = true then txt l0 nCC ++ ⟨#[44]⟩ ++ (lessT n)[k] else (lessT n)[k]) (hn : n < 100000) :
    StepOk (Lib.hasSuffix X.data.toList nNC.data.toList) (Lib.hasSuffix X.data.toList nOC.data.toList) (useF (dirsF (setF l0 nCC X)) says li ag) (useF (dirsF l0) says li ag) := by
  have key : ∀ (Q : ByteArray) (dd : Dr), (lessT n)[k] = Q → Dir Q dd → ((sl Q).all fun c => !(c == 34)) = true → Q.size ≤ 1000 → dirsF (setF l0 nCC X) = dirsF l0 ++ [dd] ∧ ∃ pre, sl X = pre ++ sl Q := by
    intro Q dd hQ hd h34 hz
    rw [hQ] at h hX
    have e1 : dirsF (setF l0 nCC X) = dirsD X := by unfold dirsF txt; rw [selF_set_self, joinS_one]
    rw [e1]
    cases hr : isR l0 nCC with
    | true =>
      rw [hr, if_pos rfl] at hX
      subst hX
      have e2 : dirsD (txt l0 nCC ++ ⟨#[44]⟩ ++ Q) = ds' := by unfold dirsD; rw [h]
      exact ⟨by rw [e2]; exact dirs_app hd h34 h, ⟨_, sl_append _ _⟩⟩
    | false =>
      rw [hr, if_neg (by simp)] at hX
      subst hX
      have e0 : selF l0 nCC = [] := by unfold isR at hr; have := of_decide_eq_false hr; exact List.length_eq_zero_iff.1 (by omega)
      have ej : joinS [X] commaS = X := joinS_one _ _
      have e3 := dirs_ts (ts := [X]) (ds := [dd]) (fun t ht => by rw [List.mem_singleton.1 ht]; exact ⟨_, hd⟩) (by simp [hd.read]) (by simp) (by rw [ej]; exact hz)
      rw [ej] at e3
      exact ⟨by rw [e3, dirsF_no e0]; rfl, ⟨[], rfl⟩⟩
  have h4 : (lessT n).length = 4 := rfl
  have lNC : (sl nNC).getLast? = some 101 := by kernel_rfl
  have lOC : (sl nOC).getLast? = some 100 := by kernel_rfl
  have hdz := digL_5 hn
  have lastX : ∀ {Q : ByteArray} {x : UInt8}, (∃ pre, sl X = pre ++ sl Q) → (sl Q).getLast? = some x → (sl X).getLast? = some x := by
    rintro Q x ⟨pre, hp⟩ hx
    rw [hp, List.getLast?_append, hx]; rfl
  show StepOk (Lib.hasSuffix (sl X) (sl nNC)) (Lib.hasSuffix (sl X) (sl nOC)) _ _
  obtain rfl | rfl | rfl | rfl : k = 0 ∨ k = 1 ∨ k = 2 ∨ k = 3 := by omega
  ·
    obtain ⟨e, hp⟩ := key (maxS n) _ rfl (max_dir n) (by unfold maxS digS; rw [sl_append, sl_mkS, List.all_append, dig_34]; kernel_rfl) (by have := maxS_size hn; omega)
    obtain ⟨b, hb, hb1, hb2⟩ := dig_last n
    have hl := lastX hp (show (sl (maxS n)).getLast? = some b by unfold maxS digS; rw [sl_append, sl_mkS, List.getLast?_append, hb]; rfl)
    rw [e, suf_last hl lNC hb1, suf_last hl lOC hb2]
    exact ⟨(fun h => by cases h), use_less (by kernel_rfl), (fun h => by cases h)⟩
  ·
    obtain ⟨e, hp⟩ := key (mfS n) _ rfl (mf_dir n) (by unfold mfS digS; rw [sl_append, sl_mkS, List.all_append, dig_34]; kernel_rfl) (by unfold mfS digS; rw [ByteArray.size_append, mkS_size]; show 10 + _ ≤ 1000; omega)
    obtain ⟨b, hb, hb1, hb2⟩ := dig_last n
    have hl := lastX hp (show (sl (mfS n)).getLast? = some b by unfold mfS digS; rw [sl_append, sl_mkS, List.getLast?_append, hb]; rfl)
    rw [e, suf_last hl lNC hb1, suf_last hl lOC hb2]
    exact ⟨(fun h => by cases h), use_less (by kernel_rfl), (fun h => by cases h)⟩
  ·
    obtain ⟨e, hp⟩ := key nNC _ rfl nc_dir (by kernel_rfl) (by decide)
    have hl := lastX hp lNC
    rw [e, suf_last hl lOC (by decide)]
    exact ⟨fun _ => use_nc (by kernel_rfl) _ _ _, use_less (by kernel_rfl), (fun h => by cases h)⟩
  ·
    obtain ⟨e, hp⟩ := key nOC _ rfl oc_dir (by kernel_rfl) (by decide)
    have hl := lastX hp lOC
    rw [e, suf_last hl lNC (by decide)]
    exact ⟨(fun h => by cases h), use_less (by kernel_rfl), fun _ => use_oc (by kernel_rfl) (by kernel_rfl) (by kernel_rfl) (by kernel_rfl) (by kernel_rfl) _ _ _⟩
theorem wt_fit {l : List Fld} {n X : ByteArray} (h1 : wt l ≤ 1048576) (h2 : X.size ≤ 1048700) (h3 : n.size = 13) : wt (setF l n X) ≤ 4398046511104 := by
  have := wt_set l n X
  omega
theorem cat_size {T T0 : ByteArray} (h : T0.size ≤ 20) (hT : T.size ≤ 1048576) : (T ++ ⟨#[44]⟩ ++ T0).size ≤ 1048700 := by
  have e : (⟨#[44]⟩ : ByteArray).size = 1 := rfl
  rw [ByteArray.size_append, ByteArray.size_append, e]
  omega
theorem cat1_size {T : ByteArray} (hT : T.size ≤ 1048576) : (T ++ ⟨#[44]⟩).size ≤ 1048700 := by
  have e : (⟨#[44]⟩ : ByteArray).size = 1 := rfl
  rw [ByteArray.size_append, e]
  omega
theorem lessT_size {n : Nat} (hn : n < 100000) (k : Nat) (hk : k < (lessT n).length) : ((lessT n)[k]).size ≤ 20 := by
  have hdz := digL_5 hn
  match k, hk with
  | 0, _ => show (maxS n).size ≤ 20; have := maxS_size hn; omega
  | 1, _ => show (mfS n).size ≤ 20; unfold mfS digS; rw [ByteArray.size_append, mkS_size]; show 10 + _ ≤ 20; omega
  | 2, _ => show nNC.size ≤ 20; decide
  | 3, _ => show nOC.size ≤ 20; decide
end Fr
end Go.Proofs.YtiijgbgknolmcaaDoor
/- FreshLess: the law's walk. -/
namespace Go.Proofs.YtiijgbgknolmcaaDoor
set_option maxRecDepth 20000
open Go.RowKit
open Fr
set_option maxHeartbeats 25600000 in
theorem freshLess_walk (v0 : Value) (l0 : List Fld) (x : Hd) (u : Value) (l : List Fld) (now n0 : Int) (w : World) (h0 : SlR w e_ss v0 l0) (hs0 : (l0.map (fun d => d.1.size + d.2.size + 2)).sum ≤ 1048576) (h : SlR w e_ss u l) (hs : (l.map (fun d => d.1.size + d.2.size + 2)).sum ≤ 1048576) (hc : (Lit.int .i64 x.code).wf = true) (has : (Lit.int .i64 x.asked).wf = true) (hca : (Lit.int .i64 x.came).wf = true) (hnow : (Lit.int .i64 now).wf = true) (hwn : (Lit.int .i64 n0).wf = true) (hmax : HasMax w) (hp10 : HasP10 w) :
    Calls Tryd.prog 12 #[v0, hv x u, .int .i64 now, .int .i64 n0] w fun e w' => e = .returned (.bool true) ∧ Below w.heap.size w w' := by
  obtain ⟨D, hD⟩ := isDate_ex
  have hL : LOk w u l := ⟨h, wt_le hs⟩
  have hL0 : LOk w v0 l0 := ⟨h0, wt_le hs0⟩
  have hls : wt l0 ≤ 1048576 := hs0
  have B1 : Below w.heap.size w (hA w x u) := (Below.refl _ _).alloc (Nat.le_refl _) _
  obtain ⟨n, hne, hn5⟩ : ∃ n : Nat, n0 % 1000 = (n : Int) ∧ n < 1000 := ⟨(n0 % 1000).toNat, by omega, by omega⟩
  have HR1 := Lib.hid (fun w => rest_any n0 1000 w (wide_of hwn) (by omega))
  rw [hne] at HR1
  have HAN := Lib.hid (fun w' (hb : Below w.heap.size w w') => anchored_any w' (hp10.below rfl hb) (hmax.below rfl hb))
  have HU := Lib.hid (fun v L w' (hb : Below w.heap.size w w') (hv : LOk w' v L) => use_any D hD v L x u l now w' hv (hL.below hb) (hp10.below rfl hb) (hmax.below rfl hb))
  have HGE := Lib.hid (fun w' (hb : Below w.heap.size w w') => getL_any v0 l0 nCC w' (hL0.below hb) (by decide))
  have hT : (txt l0 nCC).size ≤ 1048576 := by unfold txt joinS; rw [mkS_size]; exact Nat.le_trans (selF_join l0 nCC) (Nat.le_trans (wt_sum l0) hls)
  have HST := Lib.hid (fun k hk ds' h X hX => less_step n k hk l0 (dirsF l) (lifeF D l x.code x.came) (ageF D l x.came x.asked now) ds' h X hX (by omega))
  have HSZ := Lib.hid (lessT_size (n := n) (by omega))
  have HW := Lib.hid (wt_set l0 nCC)
  have y0 : (l0.length + 1) * 32 ≤ 140737488355328 := by have := wt_len l0; omega
  have HL0 := Lib.hid hL0
  have HB1 := Lib.hid (HB.new w x u)
  have hd1 : (digS n).size ≤ 5 := by unfold digS; rw [mkS_size]; exact digL_5 (by omega)
  clear h hs hc has hca hnow hwn hmax hp10 hL hL0 h0 hs0 hne
  generalize lifeF D l x.code x.came = li at *
  generalize ageF D l x.came x.asked now = ag at *
  generalize dirsF l = dl at *
  have HU0 := Lib.hid (fun w' hb hv => HU.out v0 l0 w' hb hv)
  generalize useF (dirsF l0) dl li ag = R at *
  generalize txt l0 nCC = T at *
  generalize isR l0 nCC = isr at *
  have HPZ : Hid (∀ T0 : ByteArray, T0.size ≤ 20 → (T ++ ⟨#[44]⟩ ++ T0).size ≤ 1048700) := fun T0 h => cat_size h hT
  have HPA := Lib.hid (fun (T0 : ByteArray) (h : T0.size ≤ 20) (w : World) => parseD_any (T ++ ⟨#[44]⟩ ++ T0) w (Nat.le_trans (HPZ.out T0 h) (by decide)))
  have hPs : (T ++ ⟨#[44]⟩).size ≤ 1048700 := cat1_size hT
  generalize hP : T ++ ⟨#[44]⟩ = P at *
  obtain ⟨rm, rt, rf, rb, code, rs, bd, asked, came, mark⟩ := x
  unfold hv at *
  unfold hA at *
  dsimp only at *
  go_enter Tryd.func12, Tryd.ntmps12
  go_wp2_with fail
  generalize (w.alloc (.cells #[.string rm, .string rt, rf, .string rb, .int .i64 code, .string rs, u, .string bd, .int .i64 asked, .int .i64 came, .int .i64 mark] 44)) = w1 at *
  refine (HAN.out _ B1).mono ?_
  rintro e w2 ⟨rfl, b2⟩
  have B2 := belT B1 b2
  have HB2 := Lib.hid (HB1.out.below b2)
  obtain ⟨gl, x0, x1, x2, x3, x4, x5, x6, x7, x8, x9, x10⟩ := HB2.out
  dsimp only at x0 x1 x2 x3 x4 x5 x6 x7 x8 x9 x10
  go_wp2_with fail
  clear x0 x1 x2 x3 x4 x5 x6 x7 x8 x9 x10 gl
  refine (HU0.out _ B2 (HL0.out.below B2)).mono ?_
  rintro e w3 ⟨rfl, b3⟩
  have B3 := belT B2 b3
  have HB3 := Lib.hid (HB2.out.below b3)
  clear HAN HB1 HB2 b2 b3 B1 B2
  go_wp2_with fail
  refine (HR1.out _).mono ?_
  rintro e w' ⟨rfl, rfl⟩
  go_wp2_with fail
  refine (digits_any n _ (by omega)).mono ?_
  rintro e w4 ⟨rfl, b4⟩
  go_wp2_with fail
  refine (digits_any n _ (by omega)).mono ?_
  rintro e w5 ⟨rfl, b5⟩
  have B5 := belT (belT B3 b4) b5
  have HB5 := Lib.hid ((HB3.out.below b4).below b5)
  clear HB3 B3 b4 b5 HR1
  have hcell : ∀ k (hk : k < (lessT n).length), (w5.alloc (.cells #[.string (⟨#[109, 97, 120, 45, 97, 103, 101, 61]⟩ ++ digS n), .string (⟨#[109, 105, 110, 45, 102, 114, 101, 115, 104, 61]⟩ ++ digS n), .string ⟨#[110, 111, 45, 99, 97, 99, 104, 101]⟩, .string ⟨#[111, 110, 108, 121, 45, 105, 102, 45, 99, 97, 99, 104, 101, 100]⟩] 9)).cell? ⟨w5.heap.size, k, none⟩ = some (.string (lessT n)[k]) := by
    intro k hk
    have h := new_cells w5 ((lessT n).flatMap es) 9 k (.string (lessT n)[k]) (by rw [es_map]; simp [hk])
    have e : ((⟨w5.heap.size, 0, none⟩ : Addr).add k) = ⟨w5.heap.size, k, none⟩ := by unfold Addr.add; split <;> simp_all
    rw [e] at h
    exact h
  have hlen : w5.heap.size < (w5.alloc (.cells #[.string (⟨#[109, 97, 120, 45, 97, 103, 101, 61]⟩ ++ digS n), .string (⟨#[109, 105, 110, 45, 102, 114, 101, 115, 104, 61]⟩ ++ digS n), .string ⟨#[110, 111, 45, 99, 97, 99, 104, 101]⟩, .string ⟨#[111, 110, 108, 121, 45, 105, 102, 45, 99, 97, 99, 104, 101, 100]⟩] 9)).heap.size := by simp
  have BA : Below w5.heap.size w5 (w5.alloc (.cells #[.string (⟨#[109, 97, 120, 45, 97, 103, 101, 61]⟩ ++ digS n), .string (⟨#[109, 105, 110, 45, 102, 114, 101, 115, 104, 61]⟩ ++ digS n), .string ⟨#[110, 111, 45, 99, 97, 99, 104, 101]⟩, .string ⟨#[111, 110, 108, 121, 45, 105, 102, 45, 99, 97, 99, 104, 101, 100]⟩] 9)) := (Below.refl _ _).alloc (Nat.le_refl _) _
  have h4 : (lessT n).length = 4 := rfl
  go_wp2_with fail
  generalize (w5.alloc (.cells #[.string (⟨#[109, 97, 120, 45, 97, 103, 101, 61]⟩ ++ digS n), .string (⟨#[109, 105, 110, 45, 102, 114, 101, 115, 104, 61]⟩ ++ digS n), .string ⟨#[110, 111, 45, 99, 97, 99, 104, 101]⟩, .string ⟨#[111, 110, 108, 121, 45, 105, 102, 45, 99, 97, 99, 104, 101, 100]⟩] 9)) = wb at *
  have HC := Lib.hid (fun k hk w' (hb : Below wb.heap.size wb w') => (hb.cell (p := ⟨w5.heap.size, k, none⟩) hlen).trans (hcell k hk))
  have B6 := belT B5 BA
  have HB6 := Lib.hid (HB5.out.below BA)
  clear hcell hlen BA HB5 B5 hd1
  go_loopw [33] (fun i wr => ∃ k : Nat, k ≤ 4 ∧ i = .int .i64 k ∧ Below wb.heap.size wb wr) (fun i _ => 4 - (intOf i).toNat)
  case atStart => exact ⟨0, by omega, rfl, Below.refl _ _⟩
  case round =>
    obtain ⟨k, hk, rfl, hbel⟩ := hrel
    by_cases hlt : k < 4
    · have c0 := HC.out k (by omega) wr hbel
      have HS := Lib.hid (HST.out k (by omega))
      have hPz := HSZ.out k (by omega)
      generalize (lessT n)[k]'(by omega) = T0 at *
      have hXz := HPZ.out T0 hPz
      have HPA0 := Lib.hid (fun w => HPA.out T0 hPz w)
      generalize hX : P ++ T0 = X at *
      have Br := belT B6 hbel
      have HBr := Lib.hid (HB6.out.below hbel)
      clear HC HST HSZ
      go_wp2_with fail
      refine (HGE.out _ Br).mono ?_
      rintro e w6 ⟨rfl, b6⟩
      go_wp2_with fail
      refine (HPA0.out _).mono ?_
      rintro e w7 ⟨⟨v7, c7, rfl, -, hc7⟩, b7⟩
      have B7 := belT (belT Br b6) b7
      have bl7 := belT (belT hbel b6) b7
      have HB7 := Lib.hid ((HBr.out.below b6).below b7)
      clear HBr b6 b7 c0
      by_cases hc0 : c7 = 0
      · subst hc0
        obtain ⟨ds', hds⟩ := hc7.1 rfl
        have HS2 := Lib.hid (HS.out ds' hds)
        clear hc7 HS hds
        cases isr
        · have HS3 := Lib.hid (HS2.out T0 (by simp))
          have hXz : T0.size ≤ 1048700 := Nat.le_trans hPz (by decide)
          have hwS : wt (setF l0 nCC T0) ≤ 4398046511104 := wt_fit hls hXz rfl
          have HSF := Lib.hid (fun w => Tryd.strings_HasSuffix T0 nNC w (Nat.le_trans hXz (by decide)))
          have HSG := Lib.hid (fun w => Tryd.strings_HasSuffix T0 nOC w (Nat.le_trans hXz (by decide)))
          generalize hs1 : Lib.hasSuffix T0.data.toList nNC.data.toList = s1 at *
          generalize hs2 : Lib.hasSuffix T0.data.toList nOC.data.toList = s2 at *
          have HUs := Lib.hid (fun v w' hb hv => HU.out v (setF l0 nCC T0) w' hb hv)
          generalize hR2 : useF (dirsF (setF l0 nCC T0)) dl li ag = R2 at *
          clear HS2
          clear hs1 hs2 hR2
          clear hXz
          have HX7 := Lib.hid (fun w' (hb : Below w7.heap.size w7 w') => HB7.out.below hb)
          go_wp2_with fail
          refine wp_region_seq [(true, 0), (true, 1), (true, 3), (true, 4), (false, 2), (false, 5), (true, 6)] (fun w' => Below w7.heap.size w7 w') (by kernel_rfl) (by kernel_rfl) (fun _ _ _ _ _ h => h) (by kernel_rfl) (by kernel_rfl) (by first | exact (Below.refl _ _).drew | exact Below.drew (by assumption)) ?_
          have bS : Below w7.heap.size w7 _ := (by first | exact Below.drew (by assumption) | exact (Below.refl _ w7).drew)
          iterate 4 (first | (apply seqH_skip; (focus (simp only [List.getElem?_toArray, List.getElem?_cons_succ, List.getElem?_cons_zero]; rfl)); (focus rfl); simp only [Act.put, List.setIfInBounds_toArray, List.set_cons_zero, List.set_cons_succ]) | (apply seqH_take; (focus (simp only [List.getElem?_toArray, List.getElem?_cons_succ, List.getElem?_cons_zero]; rfl)); (focus rfl); (focus (intro w' hS; obtain ⟨gl, x0, x1, x2, x3, x4, x5, x6, x7, x8, x9, x10⟩ := HX7.out _ hS; dsimp only at x0 x1 x2 x3 x4 x5 x6 x7 x8 x9 x10; first | (go_simp; rfl) | (go_simp; done))); simp only [Act.put, List.setIfInBounds_toArray, List.set_cons_zero, List.set_cons_succ]) | (apply seqH_pass; (focus (simp only [List.getElem?_toArray, List.getElem?_cons_succ, List.getElem?_cons_zero]; rfl)); (focus rfl); (focus assumption); simp only [Act.put, List.setIfInBounds_toArray, List.set_cons_zero, List.set_cons_succ]))
          apply seqH_eff
          (focus (simp only [List.getElem?_toArray, List.getElem?_cons_succ, List.getElem?_cons_zero]; rfl))
          (focus rfl)
          intro K hK
          go_simp
          go_at_call 27
          refine (set_any _ l0 nCC T0 _ (HL0.out.below (belT B7 bS)).sl y0 (HL0.out.below (belT B7 bS)).lims (by decide)).mono ?_
          rintro e w8 ⟨⟨v8, rfl, o8⟩, b8⟩
          refine hK _ _ (seq_next bS b8 (fun bS1 => ?_))
          clear hK K
          apply seqH_eff
          (focus (simp only [List.getElem?_toArray, List.getElem?_cons_succ, List.getElem?_cons_zero]; rfl))
          (focus rfl)
          intro K hK
          go_simp
          go_at_call 21
          refine (HUs.out _ _ (belT B7 bS1) ⟨SlR.of_owns o8, hwS⟩).mono ?_
          rintro e w9 ⟨rfl, b9⟩
          refine hK _ _ (seq_next bS1 b9 (fun bS2 => ?_))
          clear hK K
          iterate 1 (first | (apply seqH_skip; (focus (simp only [List.getElem?_toArray, List.getElem?_cons_succ, List.getElem?_cons_zero]; rfl)); (focus rfl); simp only [Act.put, List.setIfInBounds_toArray, List.set_cons_zero, List.set_cons_succ]) | (apply seqH_take; (focus (simp only [List.getElem?_toArray, List.getElem?_cons_succ, List.getElem?_cons_zero]; rfl)); (focus rfl); (focus (intro w' hS; skip; first | (go_simp; rfl) | (go_simp; done))); simp only [Act.put, List.setIfInBounds_toArray, List.set_cons_zero, List.set_cons_succ]) | (apply seqH_pass; (focus (simp only [List.getElem?_toArray, List.getElem?_cons_succ, List.getElem?_cons_zero]; rfl)); (focus rfl); (focus assumption); simp only [Act.put, List.setIfInBounds_toArray, List.set_cons_zero, List.set_cons_succ]))
          refine seqH_nil ?_
          have bl9 := belT bl7 bS2
          have B9 := belT B7 bS2
          obtain ⟨g1, g2, g3⟩ := HS3.out
          clear o8 b8 b9 bS bS1 bS2 HB7 HX7 HUs HS3 bl7 B7 HU HU0 HW hwS HPA HPZ HPA0
          clear hT y0 hls hPz
          by_cases e1 : R2 = 1
          · obtain rfl : R = 1 := g2 e1
            subst e1
            cases s1
            · clear g1 g2 g3
              cases s2
              all_goals
                go_wp2_with fail
                refine (HSF.out _).mono ?_
                rintro e w' ⟨rfl, rfl⟩
                go_wp2_with fail
                refine (HSG.out _).mono ?_
                rintro e w' ⟨rfl, rfl⟩
                go_wp2_with fail
                refine (HSG.out _).mono ?_
                rintro e w' ⟨rfl, rfl⟩
                go_wp2_with fail
                go_roundw
                case rel => exact ⟨k + 1, by omega, by go_num, bl9⟩
                case measure => simp [intOf]; omega
            · exact absurd rfl (g1 rfl)
          · have d1 : (R2 == 1) = false := by simpa using e1
            have d1' : decide (R2 = 1) = false := decide_eq_false e1
            cases s2
            · clear g1 g2 g3 e1
              cases s1
              all_goals
                go_wp2_with fail
                refine (HSF.out _).mono ?_
                rintro e w' ⟨rfl, rfl⟩
                go_wp2_with fail
                refine (HSG.out _).mono ?_
                rintro e w' ⟨rfl, rfl⟩
                go_wp2_with fail
                refine (HSG.out _).mono ?_
                rintro e w' ⟨rfl, rfl⟩
                go_wp2_with fail
                go_roundw
                case rel => exact ⟨k + 1, by omega, by go_num, bl9⟩
                case measure => simp [intOf]; omega
            · have e2 : ¬ R = 1 := fun h => e1 ((g3 rfl).1.2 h)
              have d2 : (R == 1) = false := by simpa using e2
              have d2' : decide (R = 1) = false := decide_eq_false e2
              have d3 : (R2 == 2) = false := by simpa using (g3 rfl).2
              have d3' : decide (R2 = 2) = false := decide_eq_false (g3 rfl).2
              clear g1 g2 g3 e1 e2
              cases s1
              all_goals
                go_wp2_with fail
                refine (HSF.out _).mono ?_
                rintro e w' ⟨rfl, rfl⟩
                go_wp2_with fail
                refine (HSG.out _).mono ?_
                rintro e w' ⟨rfl, rfl⟩
                go_wp2_with fail
                refine (HSG.out _).mono ?_
                rintro e w' ⟨rfl, rfl⟩
                go_wp2_with fail
                go_roundw
                case rel => exact ⟨k + 1, by omega, by go_num, bl9⟩
                case measure => simp [intOf]; omega
        · have HS3 := Lib.hid (HS2.out X (by simp))
          have hwS : wt (setF l0 nCC X) ≤ 4398046511104 := wt_fit hls hXz rfl
          have HSF := Lib.hid (fun w => Tryd.strings_HasSuffix X nNC w (Nat.le_trans hXz (by decide)))
          have HSG := Lib.hid (fun w => Tryd.strings_HasSuffix X nOC w (Nat.le_trans hXz (by decide)))
          generalize hs1 : Lib.hasSuffix X.data.toList nNC.data.toList = s1 at *
          generalize hs2 : Lib.hasSuffix X.data.toList nOC.data.toList = s2 at *
          have HUs := Lib.hid (fun v w' hb hv => HU.out v (setF l0 nCC X) w' hb hv)
          generalize hR2 : useF (dirsF (setF l0 nCC X)) dl li ag = R2 at *
          clear HS2
          clear hs1 hs2 hR2
          have HX7 := Lib.hid (fun w' (hb : Below w7.heap.size w7 w') => HB7.out.below hb)
          go_wp2_with fail
          refine wp_region_seq [(true, 0), (true, 1), (true, 3), (true, 4), (false, 2), (false, 5), (true, 6)] (fun w' => Below w7.heap.size w7 w') (by kernel_rfl) (by kernel_rfl) (fun _ _ _ _ _ h => h) (by kernel_rfl) (by kernel_rfl) (by first | exact (Below.refl _ _).drew | exact Below.drew (by assumption)) ?_
          have bS : Below w7.heap.size w7 _ := (by first | exact Below.drew (by assumption) | exact (Below.refl _ w7).drew)
          iterate 4 (first | (apply seqH_skip; (focus (simp only [List.getElem?_toArray, List.getElem?_cons_succ, List.getElem?_cons_zero]; rfl)); (focus rfl); simp only [Act.put, List.setIfInBounds_toArray, List.set_cons_zero, List.set_cons_succ]) | (apply seqH_take; (focus (simp only [List.getElem?_toArray, List.getElem?_cons_succ, List.getElem?_cons_zero]; rfl)); (focus rfl); (focus (intro w' hS; obtain ⟨gl, x0, x1, x2, x3, x4, x5, x6, x7, x8, x9, x10⟩ := HX7.out _ hS; dsimp only at x0 x1 x2 x3 x4 x5 x6 x7 x8 x9 x10; first | (go_simp; rfl) | (go_simp; done))); simp only [Act.put, List.setIfInBounds_toArray, List.set_cons_zero, List.set_cons_succ]) | (apply seqH_pass; (focus (simp only [List.getElem?_toArray, List.getElem?_cons_succ, List.getElem?_cons_zero]; rfl)); (focus rfl); (focus assumption); simp only [Act.put, List.setIfInBounds_toArray, List.set_cons_zero, List.set_cons_succ]))
          apply seqH_eff
          (focus (simp only [List.getElem?_toArray, List.getElem?_cons_succ, List.getElem?_cons_zero]; rfl))
          (focus rfl)
          intro K hK
          go_simp
          go_at_call 27
          refine (set_any _ l0 nCC X _ (HL0.out.below (belT B7 bS)).sl y0 (HL0.out.below (belT B7 bS)).lims (by decide)).mono ?_
          rintro e w8 ⟨⟨v8, rfl, o8⟩, b8⟩
          refine hK _ _ (seq_next bS b8 (fun bS1 => ?_))
          clear hK K
          apply seqH_eff
          (focus (simp only [List.getElem?_toArray, List.getElem?_cons_succ, List.getElem?_cons_zero]; rfl))
          (focus rfl)
          intro K hK
          go_simp
          go_at_call 21
          refine (HUs.out _ _ (belT B7 bS1) ⟨SlR.of_owns o8, hwS⟩).mono ?_
          rintro e w9 ⟨rfl, b9⟩
          refine hK _ _ (seq_next bS1 b9 (fun bS2 => ?_))
          clear hK K
          iterate 1 (first | (apply seqH_skip; (focus (simp only [List.getElem?_toArray, List.getElem?_cons_succ, List.getElem?_cons_zero]; rfl)); (focus rfl); simp only [Act.put, List.setIfInBounds_toArray, List.set_cons_zero, List.set_cons_succ]) | (apply seqH_take; (focus (simp only [List.getElem?_toArray, List.getElem?_cons_succ, List.getElem?_cons_zero]; rfl)); (focus rfl); (focus (intro w' hS; skip; first | (go_simp; rfl) | (go_simp; done))); simp only [Act.put, List.setIfInBounds_toArray, List.set_cons_zero, List.set_cons_succ]) | (apply seqH_pass; (focus (simp only [List.getElem?_toArray, List.getElem?_cons_succ, List.getElem?_cons_zero]; rfl)); (focus rfl); (focus assumption); simp only [Act.put, List.setIfInBounds_toArray, List.set_cons_zero, List.set_cons_succ]))
          refine seqH_nil ?_
          have bl9 := belT bl7 bS2
          have B9 := belT B7 bS2
          obtain ⟨g1, g2, g3⟩ := HS3.out
          clear o8 b8 b9 bS bS1 bS2 HB7 HX7 HUs HS3 bl7 B7 HU HU0 HW hwS HPA HPZ HPA0
          clear hT y0 hls hPz
          by_cases e1 : R2 = 1
          · obtain rfl : R = 1 := g2 e1
            subst e1
            cases s1
            · clear g1 g2 g3
              cases s2
              all_goals
                go_wp2_with fail
                refine (HSF.out _).mono ?_
                rintro e w' ⟨rfl, rfl⟩
                go_wp2_with fail
                refine (HSG.out _).mono ?_
                rintro e w' ⟨rfl, rfl⟩
                go_wp2_with fail
                refine (HSG.out _).mono ?_
                rintro e w' ⟨rfl, rfl⟩
                go_wp2_with fail
                go_roundw
                case rel => exact ⟨k + 1, by omega, by go_num, bl9⟩
                case measure => simp [intOf]; omega
            · exact absurd rfl (g1 rfl)
          · have d1 : (R2 == 1) = false := by simpa using e1
            have d1' : decide (R2 = 1) = false := decide_eq_false e1
            cases s2
            · clear g1 g2 g3 e1
              cases s1
              all_goals
                go_wp2_with fail
                refine (HSF.out _).mono ?_
                rintro e w' ⟨rfl, rfl⟩
                go_wp2_with fail
                refine (HSG.out _).mono ?_
                rintro e w' ⟨rfl, rfl⟩
                go_wp2_with fail
                refine (HSG.out _).mono ?_
                rintro e w' ⟨rfl, rfl⟩
                go_wp2_with fail
                go_roundw
                case rel => exact ⟨k + 1, by omega, by go_num, bl9⟩
                case measure => simp [intOf]; omega
            · have e2 : ¬ R = 1 := fun h => e1 ((g3 rfl).1.2 h)
              have d2 : (R == 1) = false := by simpa using e2
              have d2' : decide (R = 1) = false := decide_eq_false e2
              have d3 : (R2 == 2) = false := by simpa using (g3 rfl).2
              have d3' : decide (R2 = 2) = false := decide_eq_false (g3 rfl).2
              clear g1 g2 g3 e1 e2
              cases s1
              all_goals
                go_wp2_with fail
                refine (HSF.out _).mono ?_
                rintro e w' ⟨rfl, rfl⟩
                go_wp2_with fail
                refine (HSG.out _).mono ?_
                rintro e w' ⟨rfl, rfl⟩
                go_wp2_with fail
                refine (HSG.out _).mono ?_
                rintro e w' ⟨rfl, rfl⟩
                go_wp2_with fail
                go_roundw
                case rel => exact ⟨k + 1, by omega, by go_num, bl9⟩
                case measure => simp [intOf]; omega
      · have d1 : (c7 == 0) = false := by simpa using hc0
        have d2 : (c7 != 0) = true := by simpa using hc0
        have d3 : decide (c7 = 0) = false := decide_eq_false hc0
        go_wp2_with fail
        go_ret
        exact ⟨rfl, B7⟩
    · obtain rfl : k = 4 := by omega
      go_wp2_with fail
      go_ret
      exact ⟨rfl, belT B6 hbel⟩
end Go.Proofs.YtiijgbgknolmcaaDoor
