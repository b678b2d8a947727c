/- TokenPairs: the law. -/
import Derived.Test.YtdoeipjcohkbeaaPairB
import Derived.Test.YtdoeipjcohkbeaaTokK
import Derived.Test.YtdoeipjcohkbeaaEqPar
namespace Go.Proofs.Ytdoeipjcohkbeaa
open Go.RowKit
namespace Tok
theorem cutL_plain (sign : UInt8) : ∀ (u cur r : List UInt8), (34 : UInt8) ∉ u → sign ∉ u → cutL sign false cur (u ++ r) = cutL sign false (cur ++ u) r
  | [], cur, r, _, _ => by simp
  | c :: u, cur, r, h1, h2 => by
    rw [List.cons_append, cutL_n _ _ _ _ (by rw [beq_eq_false_iff_ne]; intro e; apply h1; simp [e]) (by rw [beq_eq_false_iff_ne]; intro e; apply h2; simp [e]),
      cutL_plain sign u _ _ (fun e => h1 (by simp [e])) (fun e => h2 (by simp [e]))]
    simp
end Tok
theorem piece_cut {p n v : ByteArray} (h : Piece p n v) (cur r : List UInt8) : Tok.cutL 59 false cur (sl p ++ r) = Tok.cutL 59 false (cur ++ sl p) r := by
  have n34 := tok_no h.name (c := 34) (by decide)
  have n59 := tok_no h.name (c := 59) (by decide)
  have hp : ∀ q : List UInt8, sl n ++ 61 :: q = (sl n ++ [61]) ++ q := fun q => by simp
  have a34 : (34 : UInt8) ∉ sl n ++ [61] := by simp [n34]
  have a59 : (59 : UInt8) ∉ sl n ++ [61] := by simp [n59]
  rcases h.text with ⟨ht, hv⟩ | ⟨ht, _⟩
  · have v34 := tok_no hv (c := 34) (by decide)
    have v59 := tok_no hv (c := 59) (by decide)
    rw [ht, hp]
    exact Tok.cutL_plain 59 _ _ _ (by simp [n34, v34]) (by simp [n59, v59])
  · rw [ht, hp, List.append_assoc, Tok.cutL_plain 59 _ _ _ a34 a59, Tok.cutL_quoted]
    simp
theorem tok_ends {n : ByteArray} (h : Tok.isTok n = true) : (∃ x, (sl n).head? = some x ∧ Tok.blankB x = false) ∧ ∃ y, (sl n).getLast? = some y ∧ Tok.blankB y = false := by
  unfold Tok.isTok at h
  rw [Bool.and_eq_true, decide_eq_true_eq] at h
  have hne : sl n ≠ [] := fun e => by have := sl_len n; rw [e] at this; simp at this; omega
  have hb : ∀ x ∈ sl n, Tok.blankB x = false := fun x hx => (Tok.tok_blank (List.all_eq_true.1 h.1 x hx)).1
  exact ⟨⟨_, List.head?_eq_some_head hne, hb _ (List.head_mem hne)⟩, ⟨_, List.getLast?_eq_some_getLast hne, hb _ (List.getLast_mem hne)⟩⟩
theorem piece_trim {p n v : ByteArray} (h : Piece p n v) : Tok.trimL (32 :: sl p) = sl p := by
  obtain ⟨x, hx, bx⟩ := (tok_ends h.name).1
  have hh : (sl p).head? = some x := by
    rcases h.text with ⟨ht, _⟩ | ⟨ht, _⟩ <;> (rw [ht, List.head?_append, hx]; rfl)
  obtain ⟨y, hy, hby⟩ : ∃ y, (sl p).getLast? = some y ∧ Tok.blankB y = false := by
    rcases h.text with ⟨ht, hv⟩ | ⟨ht, _⟩
    · obtain ⟨y, hy, hb⟩ := (tok_ends hv).2
      exact ⟨y, by rw [ht, List.getLast?_append, List.getLast?_cons, hy]; rfl, hb⟩
    · refine ⟨34, ?_, rfl⟩
      rw [ht]
      unfold Tok.quoteL
      rw [show sl n ++ 61 :: (34 :: (Tok.escs (sl v) ++ [34])) = (sl n ++ 61 :: 34 :: Tok.escs (sl v)) ++ [34] from by simp, List.getLast?_concat]
  have := Tok.trimL_of [32] [] x y (sl p) rfl rfl bx hby hh hy
  simpa using this
theorem piece_ne {p n v : ByteArray} (h : Piece p n v) : Tok.ne p = true := by
  obtain ⟨x, hx, -⟩ := (tok_ends h.name).1
  unfold Tok.ne
  rw [ba_toList]
  rcases h.text with ⟨ht, _⟩ | ⟨ht, _⟩ <;> (rw [ht]; cases sl n <;> simp)
def Good (ts : List Trip) : Prop := ∀ t ∈ ts, Piece t.1 t.2.1 t.2.2
def tailP (ts : List Trip) : List UInt8 := ts.flatMap (fun t => 59 :: 32 :: sl t.1)
theorem tail_cut : ∀ (ts : List Trip) (cur : List UInt8), Good ts → Tok.cutL 59 false cur (tailP ts) = some (cur :: ts.map (fun t => 32 :: sl t.1))
  | [], cur, _ => by simp [tailP, Tok.cutL]
  | t :: ts, cur, h => by
    have e : tailP (t :: ts) = 59 :: 32 :: (sl t.1 ++ tailP ts) := by simp [tailP]
    rw [e, Tok.cutL_sign _ _ _ _ rfl rfl, Tok.cutL_n _ _ _ _ rfl rfl, piece_cut (h t (by simp)), tail_cut ts _ (fun t ht => h t (by simp [ht]))]
    simp
def valueS : ByteArray := ⟨#[118, 97, 108, 117, 101]⟩
theorem whole_cut (ts : List Trip) (h : Good ts) : ∃ ps, Tok.cutL 59 false [] (sl valueS ++ tailP ts) = some ps ∧ ps.map Tok.partS = valueS :: ts.map (·.1) := by
  refine ⟨_, by rw [Tok.cutL_plain 59 _ _ _ (by decide) (by decide), tail_cut _ _ h], ?_⟩
  rw [List.map_cons, List.map_map]
  have e : Tok.partS ([] ++ sl valueS) = valueS := by decide
  rw [e]
  congr 1
  refine List.map_congr_left fun t ht => ?_
  show mkS (Tok.trimL (32 :: sl t.1)) = t.1
  rw [piece_trim (h t ht), mkS_sl]
/-- How the text stands after some rounds. -/
structure OkP (s : ByteArray) (ts : List Trip) (k : Nat) : Prop where
  text : sl s = sl valueS ++ tailP ts
  size : s.size ≤ 840
  len : ts.length ≤ k
  good : Good ts
theorem OkP.skip {s : ByteArray} {ts : List Trip} {k : Nat} (h : OkP s ts k) : OkP s ts (k + 1) := ⟨h.text, h.size, Nat.le_succ_of_le h.len, h.good⟩
theorem escs_len : ∀ l : List UInt8, l.length ≤ (Tok.escs l).length
  | [] => by simp [Tok.escs]
  | c :: l => by
    have ih := escs_len l
    have : 1 ≤ (Tok.esc c).length := by unfold Tok.esc; split <;> simp
    simp only [Tok.escs, List.flatMap_cons, List.length_append, List.length_cons] at ih ⊢; omega
theorem OkP.next {s : ByteArray} {ts : List Trip} {k : Nat} (h : OkP s ts k) (n q z : ByteArray) (hn : Tok.isTok n = true) (h30 : n.size ≤ 30) (hs : s.size + (Tok.quoteL (sl z)).length ≤ 800)
    (hq : (q = z ∧ Tok.isTok z = true) ∨ (q = mkS (Tok.quoteL (sl z)) ∧ (sl z).all Tok.plainB = true)) : OkP (s ++ (⟨#[59, 32]⟩ ++ n ++ ⟨#[61]⟩ ++ q)) (ts ++ [(n ++ ⟨#[61]⟩ ++ q, n, z)]) (k + 1) := by
  have hqs : q.size ≤ (Tok.quoteL (sl z)).length := by
    rcases hq with ⟨rfl, _⟩ | ⟨rfl, _⟩
    · have := escs_len (sl q); rw [sl_len] at this; simp [Tok.quoteL]; omega
    · rw [mkS_size]; exact Nat.le_refl _
  have z1 : (⟨#[59, 32]⟩ : ByteArray).size = 2 := rfl
  have z2 : (⟨#[61]⟩ : ByteArray).size = 1 := rfl
  have hp : Piece (n ++ ⟨#[61]⟩ ++ q) n z := by
    refine ⟨hn, by simp only [ByteArray.size_append]; omega, ?_⟩
    have e : sl (n ++ ⟨#[61]⟩ ++ q) = sl n ++ 61 :: sl q := by rw [sl_append, sl_append]; show sl n ++ [61] ++ _ = _; simp
    rcases hq with ⟨rfl, hz⟩ | ⟨rfl, hz⟩
    · exact .inl ⟨e, hz⟩
    · exact .inr ⟨by rw [e, sl_mkS], hz⟩
  refine ⟨?_, by simp only [ByteArray.size_append]; omega, by have := h.len; simp; omega, fun t ht => ?_⟩
  · rw [sl_append, h.text, List.append_assoc]
    congr 1
    unfold tailP
    rw [List.flatMap_append]
    congr 1
    simp only [List.flatMap_cons, List.flatMap_nil, List.append_nil, sl_append]
    show [59, 32] ++ sl n ++ [61] ++ sl q = 59 :: 32 :: (sl n ++ [61] ++ sl q)
    simp
  · rcases List.mem_append.1 ht with ht | ht
    · exact h.good t ht
    · rw [List.mem_singleton] at ht; subst ht; exact hp
end Go.Proofs.Ytdoeipjcohkbeaa
