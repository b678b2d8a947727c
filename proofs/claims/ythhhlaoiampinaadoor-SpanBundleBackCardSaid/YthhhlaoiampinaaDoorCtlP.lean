/- control: the plain law of Parse and Print. -/
import Derived.Test.YthhhlaoiampinaaDoorCtlD
namespace Go.Proofs.YthhhlaoiampinaaDoor
set_option maxRecDepth 20000
open Go.RowKit
namespace Tok
theorem cutL_short (sign : UInt8) : ∀ (n : Nat) (l : List UInt8) (q : Bool) (cur : List UInt8) (ps : List (List UInt8)), l.length ≤ n → cutL sign q cur l = some ps → ∀ p ∈ ps, p.length ≤ cur.length + l.length
  | _, [], q, cur, ps, _, h, p, hp => by
    unfold cutL at h
    cases q
    · simp only [Bool.false_eq_true, if_false, Option.some.injEq] at h; subst h; rw [List.mem_singleton] at hp; subst hp; omega
    · simp at h
  | 0, c :: l, _, _, _, hn, _, _, _ => by simp at hn
  | n + 1, c :: l, q, cur, ps, hn, h, p, hp => by
    simp only [List.length_cons] at hn
    unfold cutL at h
    split at h
    · have := cutL_short sign n l _ _ ps (by omega) h p hp
      simp only [List.length_append, List.length_cons, List.length_nil] at this ⊢; omega
    · split at h
      · cases l with
        | nil => simp at h
        | cons d l =>
          simp only [List.length_cons] at hn
          have := cutL_short sign n l _ _ ps (by omega) h p hp
          simp only [List.length_append, List.length_cons, List.length_nil] at this ⊢; omega
      · split at h
        · obtain ⟨qs, hq, rfl⟩ := Option.map_eq_some_iff.1 h
          rcases List.mem_cons.1 hp with rfl | hp
          · omega
          · have := cutL_short sign n l _ _ qs (by omega) hq p hp
            simp only [List.length_cons, List.length_nil] at this ⊢; omega
        · have := cutL_short sign n l _ _ ps (by omega) h p hp
          simp only [List.length_append, List.length_cons, List.length_nil] at this ⊢; omega
theorem trimL_le (l : List UInt8) : (trimL l).length ≤ l.length := by
  unfold trimL
  rw [List.length_reverse]
  refine Nat.le_trans (List.dropWhile_sublist _).length_le ?_
  rw [List.length_reverse]
  exact (List.dropWhile_sublist _).length_le
theorem split_short {l : List UInt8} {ps : List (List UInt8)} (h : splitL l = .ok ps) : (∀ p ∈ ps, p.length ≤ 1000) ∧ ps.length ≤ 20 ∧ l.length ≤ 1000 := by
  unfold splitL at h
  split at h
  · cases h
  · rename_i hl
    cases hc : cutL 44 false [] l with
    | none => rw [hc] at h; cases h
    | some qs =>
      rw [hc] at h
      dsimp only at h
      split at h
      · cases h
      · rename_i h20
        injection h with h
        subst h
        refine ⟨fun p hp => ?_, by omega, by omega⟩
        obtain ⟨q, hq, rfl⟩ := List.mem_map.1 (List.mem_filter.1 hp).1
        have h1 := trimL_le q
        have h2 := cutL_short 44 _ l _ _ qs (Nat.le_refl _) hc q hq
        simp only [List.length_nil] at h2; omega
end Tok
/-! ### What is printed. -/
structure Dir (p : ByteArray) (d : Dr) : Prop where
  name : Tok.isTok d.1 = true
  low : lowT d.1 = d.1
  text : (d.2.1 = false ∧ d.2.2 = ByteArray.empty ∧ sl p = sl d.1) ∨ (d.2.1 = true ∧ sl p = sl d.1 ++ 61 :: sl d.2.2 ∧ Tok.isTok d.2.2 = true) ∨
    (d.2.1 = true ∧ Tok.isTok d.2.2 = false ∧ sl p = sl d.1 ++ 61 :: Tok.quoteL (sl d.2.2) ∧ (sl d.2.2).all Tok.plainB = true)
theorem dir_of {p : ByteArray} {d : Dr} (h : textD d = some p) : Dir p d := by
  obtain ⟨n, hh, a⟩ := d
  unfold textD at h
  split at h
  · rename_i ho
    unfold okD at ho
    simp only [Bool.and_eq_true, beq_iff_eq, ba_toList] at ho
    obtain ⟨⟨h1, h2⟩, h3⟩ := ho
    have h2' : lowT n = n := sl_inj h2.symm
    cases hh
    · simp only [Bool.false_eq_true, if_false, Option.some.injEq] at h
      subst h
      refine ⟨h1, h2', .inl ⟨rfl, ?_, rfl⟩⟩
      simp only [Bool.false_or, List.isEmpty_iff] at h3
      exact sl_inj h3
    · simp only [if_true] at h
      have e : ∀ z : ByteArray, sl (n ++ ⟨#[61]⟩ ++ z) = sl n ++ 61 :: sl z := fun z => by rw [sl_append, sl_append]; show sl n ++ [61] ++ _ = _; simp
      split at h
      · rename_i ht
        injection h with h; subst h
        exact ⟨h1, h2', .inr (.inl ⟨rfl, e _, ht⟩)⟩
      · rename_i ht
        split at h
        · rename_i hq
          injection h with h; subst h
          exact ⟨h1, h2', .inr (.inr ⟨rfl, by simpa using ht, by rw [e, sl_mkS], hq.2⟩)⟩
        · cases h
  · cases h
theorem Dir.cut {p : ByteArray} {d : Dr} (h : Dir p d) (cur r : List UInt8) : Tok.cutL 44 false cur (sl p ++ r) = Tok.cutL 44 false (cur ++ sl p) r := by
  have n34 := tok_no h.name (c := 34) (by decide)
  have n44 := tok_no h.name (c := 44) (by decide)
  have hp : ∀ q : List UInt8, sl d.1 ++ 61 :: q = (sl d.1 ++ [61]) ++ q := fun q => by simp
  have a34 : (34 : UInt8) ∉ sl d.1 ++ [61] := by simp [n34]
  have a44 : (44 : UInt8) ∉ sl d.1 ++ [61] := by simp [n44]
  rcases h.text with ⟨_, _, ht⟩ | ⟨_, ht, hv⟩ | ⟨_, _, ht, _⟩
  · rw [ht]; exact Tok.cutL_plain 44 _ _ _ n34 n44
  · have v34 := tok_no hv (c := 34) (by decide)
    have v44 := tok_no hv (c := 44) (by decide)
    rw [ht, hp]
    exact Tok.cutL_plain 44 _ _ _ (by simp [n34, v34]) (by simp [n44, v44])
  · rw [ht, hp, List.append_assoc, Tok.cutL_plain 44 _ _ _ a34 a44, Tok.cutL_quoted]
    simp
theorem Dir.ends {p : ByteArray} {d : Dr} (h : Dir p d) : (∃ x, (sl p).head? = some x ∧ Tok.blankB x = false) ∧ ∃ y, (sl p).getLast? = some y ∧ Tok.blankB y = false := by
  obtain ⟨⟨x, hx, bx⟩, ⟨z, hz, bz⟩⟩ := tok_ends h.name
  rcases h.text with ⟨_, _, ht⟩ | ⟨_, ht, hv⟩ | ⟨_, _, ht, _⟩
  · rw [ht]; exact ⟨⟨x, hx, bx⟩, ⟨z, hz, bz⟩⟩
  · obtain ⟨y, hy, hb⟩ := (tok_ends hv).2
    exact ⟨⟨x, by rw [ht, List.head?_append, hx]; rfl, bx⟩, ⟨y, by rw [ht, List.getLast?_append, List.getLast?_cons, hy]; rfl, hb⟩⟩
  · refine ⟨⟨x, by rw [ht, List.head?_append, hx]; rfl, bx⟩, ⟨34, ?_, rfl⟩⟩
    rw [ht]
    unfold Tok.quoteL
    rw [show sl d.1 ++ 61 :: (34 :: (Tok.escs (sl d.2.2) ++ [34])) = (sl d.1 ++ 61 :: 34 :: Tok.escs (sl d.2.2)) ++ [34] from by simp, List.getLast?_concat]
theorem Dir.trim {p : ByteArray} {d : Dr} (h : Dir p d) : Tok.trimL (32 :: sl p) = sl p ∧ Tok.trimL (sl p) = sl p := by
  obtain ⟨⟨x, hx, bx⟩, ⟨y, hy, bY⟩⟩ := h.ends
  have h1 := Tok.trimL_of [32] [] x y (sl p) rfl rfl bx bY hx hy
  have h2 := Tok.trimL_of [] [] x y (sl p) rfl rfl bx bY hx hy
  exact ⟨by simpa using h1, by simpa using h2⟩
theorem Dir.some {p : ByteArray} {d : Dr} (h : Dir p d) : (sl p).isEmpty = false := by
  obtain ⟨⟨x, hx, _⟩, _⟩ := h.ends
  cases hp : sl p with
  | nil => rw [hp] at hx; cases hx
  | cons y l => rfl
theorem Dir.read {p : ByteArray} {d : Dr} (h : Dir p d) : dirD p = Option.some d := by
  obtain ⟨n, hh, a⟩ := d
  obtain ⟨h1, h2, h3⟩ := h
  have n61 := tok_no h1 tok_61
  unfold dirD
  dsimp only at h1 h2 h3 n61
  rcases h3 with ⟨rfl, rfl, ht⟩ | ⟨rfl, ht, hv⟩ | ⟨rfl, hv, ht, hp⟩
  · have hpn : p = n := sl_inj ht
    subst hpn
    rw [cutAt_none n61]
    simp only [h1, if_true, h2]
  · rw [cutAt_some ht n61]
    simp only [mkS_sl, h1, hv, if_true, h2]
  · rw [cutAt_some ht n61]
    simp only [mkS_sl, h1, quoted_no, Bool.false_eq_true, if_true, if_false, Tok.unquote_quote _ hp, Option.map_some, h2]
theorem dirs_read {l : List Dr} {ts : List ByteArray} (h : l.map textD = ts.map Option.some) : ts.map dirD = l.map Option.some := by
  induction l generalizing ts with
  | nil => cases ts with
    | nil => rfl
    | cons t ts => simp at h
  | cons d l ih =>
    cases ts with
    | nil => simp at h
    | cons t ts =>
      simp only [List.map_cons, List.cons.injEq] at h ⊢
      exact ⟨(dir_of h.1).read, ih h.2⟩
theorem dirs_all {l : List Dr} {ts : List ByteArray} (h : l.map textD = ts.map Option.some) : ∀ t ∈ ts, ∃ d, Dir t d := by
  induction l generalizing ts with
  | nil => cases ts with
    | nil => intro t ht; cases ht
    | cons t ts => simp at h
  | cons d l ih =>
    cases ts with
    | nil => simp at h
    | cons t ts =>
      simp only [List.map_cons, List.cons.injEq] at h
      intro x hx
      rcases List.mem_cons.1 hx with rfl | hx
      · exact ⟨d, dir_of h.1⟩
      · exact ih h.2 x hx
theorem tail_cut2 : ∀ (ts : List ByteArray) (cur : List UInt8), (∀ t ∈ ts, ∃ d, Dir t d) → Tok.cutL 44 false cur (Lib.joinTail [44, 32] (ts.map sl)) = Option.some (cur :: ts.map (fun t => 32 :: sl t))
  | [], cur, _ => by simp [Lib.joinTail, Tok.cutL]
  | t :: ts, cur, h => by
    obtain ⟨d, hd⟩ := h t (by simp)
    have e : Lib.joinTail [44, 32] ((t :: ts).map sl) = 44 :: 32 :: (sl t ++ Lib.joinTail [44, 32] (ts.map sl)) := by simp [Lib.joinTail]
    rw [e, Tok.cutL_sign _ _ _ _ rfl rfl, Tok.cutL_n _ _ _ _ rfl rfl, hd.cut, tail_cut2 ts _ (fun t ht => h t (by simp [ht]))]
    simp
theorem split_dirs (ts : List ByteArray) (h : ∀ t ∈ ts, ∃ d, Dir t d) (h20 : ts.length ≤ 20) (hz : (joinS ts commaS).size ≤ 1000) : Tok.splitL (sl (joinS ts commaS)) = .ok (ts.map sl) := by
  unfold Tok.splitL
  rw [sl_len, if_neg (by omega)]
  unfold joinS joinL
  rw [sl_mkS]
  cases ts with
  | nil => rfl
  | cons t ts =>
    obtain ⟨d, hd⟩ := h t (by simp)
    rw [List.map_cons, Lib.join_cons, hd.cut, List.nil_append]
    rw [show sl commaS = [44, 32] from rfl, tail_cut2 ts _ (fun t ht => h t (by simp [ht]))]
    dsimp only
    have e : ((sl t :: ts.map (fun t => 32 :: sl t)).map Tok.trimL).filter (fun p => !p.isEmpty) = sl t :: ts.map sl := by
      have e1 : (sl t :: ts.map (fun t => 32 :: sl t)).map Tok.trimL = sl t :: ts.map sl := by
        rw [List.map_cons, hd.trim.2, List.map_map]
        congr 1
        refine List.map_congr_left fun x hx => ?_
        obtain ⟨d', hd'⟩ := h x (by simp [hx])
        exact hd'.trim.1
      rw [e1, List.filter_eq_self]
      intro x hx
      have hx' : x ∈ (t :: ts).map sl := hx
      obtain ⟨y, hy, rfl⟩ := List.mem_map.1 hx'
      obtain ⟨d', hd'⟩ := h y hy
      rw [hd'.some]; rfl
    rw [e, if_neg (by simp only [List.length_cons, List.length_map] at h20 ⊢; omega)]
/-! ### What is read. -/
theorem low_tok (n : ByteArray) : Tok.isTok (lowT n) = Tok.isTok n := by
  have hb0 : ∀ n : Fin 256, Tok.tokB (Tok.lowB (UInt8.ofNat n.val)) = Tok.tokB (UInt8.ofNat n.val) := by decide +kernel
  have hb : ∀ c, Tok.tokB (Tok.lowB c) = Tok.tokB c := fun c => by
    have := hb0 ⟨c.toNat, c.toNat_lt⟩
    simpa using this
  unfold Tok.isTok lowT
  rw [sl_mkS, mkS_size, Tok.low_len, sl_len]
  congr 1
  unfold Tok.low
  rw [List.all_map]
  congr 1
  funext c
  exact hb c
theorem low_twice (n : ByteArray) : lowT (lowT n) = lowT n := by unfold lowT; rw [sl_mkS, Tok.low_low]
theorem okD_low (n : ByteArray) (h : Bool) (a : ByteArray) (ht : Tok.isTok n = true) (ha : h = true ∨ a = ByteArray.empty) : okD (lowT n, h, a) = true := by
  unfold okD
  rw [low_tok, ht, low_twice]
  simp only [beq_self_eq_true, Bool.true_and, Bool.or_eq_true]
  rcases ha with rfl | rfl
  · exact .inl rfl
  · exact .inr (by rw [ba_toList]; rfl)
theorem dir_prints {p : ByteArray} {d : Dr} (h : dirD p = Option.some d) (hp : p.size ≤ 1000) : ∃ t, textD d = Option.some t := by
  have hb : ∀ a b, cutAt 61 (sl p) = Option.some (a, b) → b.length ≤ 1000 := by
    have : ∀ (l a b : List UInt8), cutAt 61 l = Option.some (a, b) → b.length ≤ l.length := by
      intro l
      induction l with
      | nil => intro a b h; cases h
      | cons c l ih =>
        intro a b h
        unfold cutAt at h
        split at h
        · injection h with h; injection h with _ h; subst h; simp
        · obtain ⟨⟨x, y⟩, hx, he⟩ := Option.map_eq_some_iff.1 h
          injection he with _ he; subst he
          have := ih _ _ hx
          simp only [List.length_cons]; omega
    intro a b h
    have := this _ _ _ h
    rw [sl_len] at this; omega
  unfold dirD at h
  cases hc : cutAt 61 (sl p) with
  | none =>
    rw [hc] at h
    dsimp only at h
    split at h
    · rename_i ht
      injection h with h; subst h
      refine ⟨lowT p, ?_⟩
      · unfold textD; rw [if_pos (okD_low _ _ _ ht (.inr rfl))]; rfl
    · cases h
  | some ab =>
    obtain ⟨a, b⟩ := ab
    rw [hc] at h
    dsimp only at h
    split at h
    · rename_i ht
      split at h
      · rename_i hv
        injection h with h; subst h
        refine ⟨lowT (mkS a) ++ ⟨#[61]⟩ ++ mkS b, ?_⟩
        · unfold textD; rw [if_pos (okD_low _ _ _ ht (.inl rfl))]; simp only [if_true, hv]
      · obtain ⟨u, hu, rfl⟩ := Option.map_eq_some_iff.1 h
        have h1 := Tok.unquote_some hu
        have h2 := escs_ge u
        have h3 := hb a b hc
        have h4 : u.length ≤ 1000 := by have := h1.1; simp [Tok.quoteL] at this; omega
        unfold textD
        rw [if_pos (okD_low _ _ _ ht (.inl rfl))]
        simp only [if_true, sl_mkS]
        split
        · exact ⟨_, rfl⟩
        · rw [if_pos ⟨h4, h1.2⟩]; exact ⟨_, rfl⟩
    · cases h
theorem dirs_print {ps : List ByteArray} {l : List Dr} (h : ps.map dirD = l.map Option.some) (hp : ∀ p ∈ ps, p.size ≤ 1000) : ∃ ts : List ByteArray, l.map textD = ts.map Option.some := by
  induction ps generalizing l with
  | nil => cases l with
    | nil => exact ⟨[], rfl⟩
    | cons d l => simp at h
  | cons p ps ih =>
    cases l with
    | nil => simp at h
    | cons d l =>
      simp only [List.map_cons, List.cons.injEq] at h
      obtain ⟨t, ht⟩ := dir_prints h.1 (hp p (by simp))
      obtain ⟨ts, hts⟩ := ih h.2 (fun x hx => hp x (by simp [hx]))
      exact ⟨t :: ts, by simp [ht, hts]⟩
end Go.Proofs.YthhhlaoiampinaaDoor
