/- TokenAgain: the plain law, and the law's walk. -/
import Derived.Test.YtdoeipjcohkbeaaDoorTokD1
import Derived.Test.YtdoeipjcohkbeaaDoorTokJ
import Derived.Test.YtdoeipjcohkbeaaDoorEqStr
import Derived.Test.YtdoeipjcohkbeaaDoorTrim
import Derived.Test.YtdoeipjcohkbeaaDoorJoin
namespace Go.Proofs.YtdoeipjcohkbeaaDoor
set_option maxRecDepth 20000
open Go.RowKit
namespace Tok
/-- In quotes or not behind a piece in which no comma stands free (none: one does, or it ends within an escape). -/
def scan : Bool → List UInt8 → Option Bool
  | q, [] => some q
  | q, c :: r =>
    if c == 34 then scan (!q) r
    else if q && c == 92 then (match r with | [] => none | _ :: r' => scan q r')
    else if !q && c == 44 then none
    else scan q r
theorem scan_cut : ∀ (n : Nat) (p : List UInt8) (q q' : Bool) (cur r : List UInt8), p.length ≤ n → scan q p = some q' → cutL 44 q cur (p ++ r) = cutL 44 q' (cur ++ p) r
  | _, [], q, q', cur, r, _, h => by
    unfold scan at h; injection h with h; subst h; simp
  | 0, c :: p, _, _, _, _, hn, _ => by simp at hn
  | n + 1, c :: p, q, q', cur, r, hn, h => by
    simp only [List.length_cons] at hn
    unfold scan at h
    cases h34 : (c == 34)
    · rw [h34] at h
      simp only [Bool.false_eq_true, if_false] at h
      cases q
      · simp only [Bool.false_and, Bool.false_eq_true, if_false, Bool.not_false, Bool.true_and] at h
        cases h44 : (c == 44)
        · rw [h44] at h
          simp only [Bool.false_eq_true, if_false] at h
          rw [List.cons_append, cutL_n _ _ _ _ h34 h44, scan_cut n p false q' _ r (by omega) h]; simp
        · rw [h44] at h; simp at h
      · simp only [Bool.true_and, Bool.not_true, Bool.false_and, Bool.false_eq_true, if_false] at h
        cases h92 : (c == 92)
        · rw [h92] at h
          simp only [Bool.false_eq_true, if_false] at h
          rw [List.cons_append, cutL_q _ _ _ _ h34 h92, scan_cut n p true q' _ r (by omega) h]; simp
        · rw [h92] at h
          simp only [if_true] at h
          cases p with
          | nil => cases h
          | cons d p =>
            simp only [List.length_cons] at hn
            rw [List.cons_append, List.cons_append, cutL_esc _ _ _ _ _ h34 h92, scan_cut n p true q' _ r (by omega) h]; simp
    · rw [h34] at h
      simp only [if_true] at h
      rw [List.cons_append, cutL_quote _ _ _ _ _ h34, scan_cut n p (!q) q' _ r (by omega) h]; simp
theorem scan_snoc : ∀ (n : Nat) (p : List UInt8) (q q' : Bool) (r : List UInt8), p.length ≤ n → scan q p = some q' → scan q (p ++ r) = scan q' r
  | _, [], q, q', r, _, h => by unfold scan at h; injection h with h; subst h; rfl
  | 0, c :: p, _, _, _, hn, _ => by simp at hn
  | n + 1, c :: p, q, q', r, hn, h => by
    simp only [List.length_cons] at hn
    unfold scan at h
    rw [List.cons_append]
    conv => lhs; unfold scan
    split at h
    · rename_i h1; rw [if_pos h1]; exact scan_snoc n p _ q' r (by omega) h
    · rename_i h1; rw [if_neg h1]
      split at h
      · rename_i h2; rw [if_pos h2]
        cases p with
        | nil => cases h
        | cons d p =>
          simp only [List.length_cons] at hn
          exact scan_snoc n p _ q' r (by omega) h
      · rename_i h2; rw [if_neg h2]
        split at h
        · cases h
        · rename_i h3; rw [if_neg h3]; exact scan_snoc n p _ q' r (by omega) h
/-- The parts that a cut gives are such pieces, quotes closed. -/
theorem cut_scan : ∀ (n : Nat) (l : List UInt8) (q : Bool) (cur : List UInt8) (ps : List (List UInt8)), l.length ≤ n → scan false cur = some q → cutL 44 q cur l = some ps → ∀ p ∈ ps, scan false p = some false
  | _, [], q, cur, ps, _, hs, h, p, hp => by
    unfold cutL at h
    cases q
    · simp only [Bool.false_eq_true, if_false, Option.some.injEq] at h; subst h; rw [List.mem_singleton] at hp; subst hp; exact hs
    · simp at h
  | 0, c :: l, _, _, _, hn, _, _, _, _ => by simp at hn
  | n + 1, c :: l, q, cur, ps, hn, hs, h, p, hp => by
    simp only [List.length_cons] at hn
    unfold cutL at h
    split at h
    · rename_i h1
      refine cut_scan n l _ _ ps (by omega) ?_ h p hp
      rw [scan_snoc _ cur false q [c] (Nat.le_refl _) hs]; unfold scan; rw [if_pos h1]; rfl
    · rename_i h1
      split at h
      · rename_i h2
        cases l with
        | nil => cases h
        | cons d l =>
          simp only [List.length_cons] at hn
          refine cut_scan n l _ _ ps (by omega) ?_ h p hp
          rw [scan_snoc _ cur false q [c, d] (Nat.le_refl _) hs]; unfold scan; rw [if_neg h1, if_pos h2]; rfl
      · rename_i h2
        split at h
        · rename_i h3
          obtain ⟨qs, hq, rfl⟩ := Option.map_eq_some_iff.1 h
          have hq0 : q = false := by cases q; rfl; simp at h3
          subst hq0
          rcases List.mem_cons.1 hp with rfl | hp
          · exact hs
          · exact cut_scan n l _ _ qs (by omega) rfl hq p hp
        · rename_i h3
          refine cut_scan n l _ _ ps (by omega) ?_ h p hp
          rw [scan_snoc _ cur false q [c] (Nat.le_refl _) hs]; unfold scan; rw [if_neg h1, if_neg h2, if_neg h3]; rfl
theorem blank_not {c : UInt8} (h : blankB c = true) : (c == 34) = false ∧ (c == 92) = false ∧ (c == 44) = false := by
  have h0 : ∀ n : Fin 256, blankB (UInt8.ofNat n.val) = true → (UInt8.ofNat n.val == 34) = false ∧ (UInt8.ofNat n.val == 92) = false ∧ (UInt8.ofNat n.val == 44) = false := by decide +kernel
  have := h0 ⟨c.toNat, c.toNat_lt⟩
  simp only [UInt8.ofNat_toNat] at this
  exact this h
theorem scan_blanks : ∀ (b : List UInt8) (q : Bool) (r : List UInt8), b.all blankB = true → scan q (b ++ r) = scan q r
  | [], _, _, _ => rfl
  | c :: b, q, r, h => by
    simp only [List.all_cons, Bool.and_eq_true] at h
    obtain ⟨h1, h2, h3⟩ := blank_not h.1
    rw [List.cons_append]
    conv => lhs; unfold scan
    rw [if_neg (by rw [h1]; simp), if_neg (by rw [h2]; simp), if_neg (by rw [h3]; simp)]
    exact scan_blanks b q r h.2
theorem scan_behind : ∀ (n : Nat) (t b : List UInt8) (q : Bool), t.length ≤ n → b.all blankB = true → scan q (t ++ b) = some false → scan q t = some false
  | _, [], b, q, _, hb, h => by
    have := scan_blanks b q [] hb
    rw [List.append_nil] at this
    rw [List.nil_append, this] at h; exact h
  | 0, c :: t, _, _, hn, _, _ => by simp at hn
  | n + 1, c :: t, b, q, hn, hb, h => by
    simp only [List.length_cons] at hn
    rw [List.cons_append] at h
    unfold scan at h ⊢
    split at h
    · rename_i h1; rw [if_pos h1]; exact scan_behind n t b _ (by omega) hb h
    · rename_i h1; rw [if_neg h1]
      split at h
      · rename_i h2; rw [if_pos h2]
        cases t with
        | nil =>
          exfalso
          have hq : q = true := by cases q; simp at h2; rfl
          subst hq
          cases b with
          | nil => cases h
          | cons d b =>
            simp only [List.all_cons, Bool.and_eq_true] at hb
            have := scan_blanks b true [] hb.2
            rw [List.append_nil] at this
            simp only [List.nil_append] at h
            rw [this] at h; simp [scan] at h
        | cons d t =>
          simp only [List.length_cons] at hn
          exact scan_behind n t b _ (by omega) hb h
      · rename_i h2; rw [if_neg h2]
        split at h
        · cases h
        · rename_i h3; rw [if_neg h3]; exact scan_behind n t b _ (by omega) hb h
/-- A text is what is left of it, between blanks. -/
theorem trim_split (l : List UInt8) : ∃ a b : List UInt8, a.all blankB = true ∧ b.all blankB = true ∧ l = a ++ trimL l ++ b := by
  have hd : ∀ m : List UInt8, ∃ a : List UInt8, a.all blankB = true ∧ m = a ++ m.dropWhile blankB := by
    intro m
    induction m with
    | nil => exact ⟨[], rfl, rfl⟩
    | cons x m ih =>
      cases hx : blankB x
      · exact ⟨[], rfl, by rw [dw_cons_false hx]; rfl⟩
      · obtain ⟨a, ha, he⟩ := ih
        refine ⟨x :: a, by simp [hx, ha], ?_⟩
        rw [dw_cons_true hx, List.cons_append, ← he]
  obtain ⟨a, ha, he⟩ := hd l
  obtain ⟨b, hb, hf⟩ := hd (l.dropWhile blankB).reverse
  refine ⟨a, b.reverse, ha, all_reverse b hb, ?_⟩
  have := congrArg List.reverse hf
  rw [List.reverse_reverse, List.reverse_append] at this
  rw [List.append_assoc]
  unfold trimL
  rw [← this]; exact he
theorem scan_trim {l : List UInt8} (h : scan false l = some false) : scan false (trimL l) = some false := by
  obtain ⟨a, b, ha, hb, he⟩ := trim_split l
  have h' : scan false (a ++ (trimL l ++ b)) = some false := by rw [← List.append_assoc, ← he]; exact h
  rw [scan_blanks a _ _ ha] at h'
  exact scan_behind _ _ b _ (Nat.le_refl _) hb h'
theorem cut_len : ∀ (n : Nat) (l : List UInt8) (q : Bool) (cur : List UInt8) (ps : List (List UInt8)), l.length ≤ n → cutL 44 q cur l = some ps → (ps.map (fun p => p.length + 1)).sum = cur.length + l.length + 1
  | _, [], q, cur, ps, _, h => by
    unfold cutL at h
    cases q
    · simp only [Bool.false_eq_true, if_false, Option.some.injEq] at h; subst h; simp
    · simp at h
  | 0, c :: l, _, _, _, hn, _ => by simp at hn
  | n + 1, c :: l, q, cur, ps, hn, h => by
    simp only [List.length_cons] at hn
    unfold cutL at h
    split at h
    · have := cut_len n l _ _ ps (by omega) h
      rw [this]; simp; omega
    · split at h
      · cases l with
        | nil => cases h
        | cons d l =>
          simp only [List.length_cons] at hn
          have := cut_len n l _ _ ps (by omega) h
          rw [this]; simp; omega
      · split at h
        · obtain ⟨qs, hq, rfl⟩ := Option.map_eq_some_iff.1 h
          have := cut_len n l _ _ qs (by omega) hq
          rw [List.map_cons, List.sum_cons, this]; simp; omega
        · have := cut_len n l _ _ ps (by omega) h
          rw [this]; simp; omega
theorem trim_len (l : List UInt8) : (trimL l).length ≤ l.length := by
  unfold trimL
  rw [List.length_reverse]
  refine Nat.le_trans (List.dropWhile_sublist _).length_le ?_
  rw [List.length_reverse]
  exact (List.dropWhile_sublist _).length_le
theorem sum_filter : ∀ (qs : List (List UInt8)), (((qs.map trimL).filter (fun p => !p.isEmpty)).map (fun p => p.length + 1)).sum ≤ (qs.map (fun p => p.length + 1)).sum
  | [] => Nat.le_refl _
  | q :: qs => by
    have ih := sum_filter qs
    have := trim_len q
    simp only [List.map_cons, List.filter_cons, List.sum_cons]
    split
    · simp only [List.map_cons, List.sum_cons]; omega
    · omega
structure Part (p : List UInt8) : Prop where
  scan : scan false p = some false
  trim : trimL p = p
  some : p.isEmpty = false
theorem trim_idem (l : List UInt8) : trimL (trimL l) = trimL l := by
  have hd : ∀ m : List UInt8, (m.dropWhile blankB).dropWhile blankB = m.dropWhile blankB := by
    intro m
    induction m with
    | nil => rfl
    | cons x m ih =>
      cases hx : blankB x
      · rw [dw_cons_false hx, dw_cons_false hx]
      · rw [dw_cons_true hx]; exact ih
  have e : trimL l = ((l.reverse.dropWhile blankB).reverse).dropWhile blankB := (trim_swap l).symm
  have e1 : (trimL l).dropWhile blankB = trimL l := by rw [e, hd]
  unfold trimL at e1 ⊢
  rw [e1, List.reverse_reverse, hd]
theorem split_parts {l : List UInt8} {ps : List (List UInt8)} (h : splitL l = .ok ps) : (∀ p ∈ ps, Part p) ∧ ps.length ≤ 20 ∧ (ps.map (fun p => p.length + 1)).sum ≤ 1001 := by
  unfold splitL at h
  split at h
  · cases h
  · rename_i hl
    cases hc : cutL 44 false [] l with
    | none => rw [hc] at h; cases h
    | some qs =>
      rw [hc] at h
      dsimp only at h
      split at h
      · cases h
      · rename_i h20
        injection h with h
        subst h
        refine ⟨fun p hp => ?_, by omega, ?_⟩
        · obtain ⟨h1, h2⟩ := List.mem_filter.1 hp
          obtain ⟨q, hq, rfl⟩ := List.mem_map.1 h1
          exact ⟨scan_trim (cut_scan _ l false [] qs (Nat.le_refl _) rfl hc q hq), trim_idem q, by simpa using h2⟩
        · refine Nat.le_trans (sum_filter qs) ?_
          rw [cut_len _ l false [] qs (Nat.le_refl _) hc]; simp only [List.length_nil]; omega
theorem join_lens : ∀ (x : List UInt8) (ps : List (List UInt8)), (Lib.join (x :: ps) [44]).length + 1 = ((x :: ps).map (fun p => p.length + 1)).sum := by
  intro x ps
  rw [Lib.join_cons, List.length_append]
  have : (Lib.joinTail [44] ps).length = (ps.map (fun p => p.length + 1)).sum := by
    induction ps with
    | nil => rfl
    | cons y ys ih => simp only [Lib.joinTail, List.map_cons, List.flatten_cons, List.length_append, List.sum_cons, List.length_singleton] at ih ⊢; rw [ih]; omega
  rw [this, List.map_cons, List.sum_cons]; omega
theorem tail_parts : ∀ (ps : List (List UInt8)) (cur : List UInt8), (∀ p ∈ ps, Part p) → cutL 44 false cur (Lib.joinTail [44] ps) = some (cur :: ps)
  | [], cur, _ => by simp [Lib.joinTail, cutL]
  | p :: ps, cur, h => by
    have e : Lib.joinTail [44] (p :: ps) = 44 :: (p ++ Lib.joinTail [44] ps) := by simp [Lib.joinTail]
    rw [e, cutL_sign _ _ _ _ rfl rfl, scan_cut _ p false false [] _ (Nat.le_refl _) (h p (by simp)).scan, tail_parts ps _ (fun x hx => h x (by simp [hx]))]
    simp
theorem split_again {ps : List (List UInt8)} (h : ∀ p ∈ ps, Part p) (h20 : ps.length ≤ 20) (hz : (ps.map (fun p => p.length + 1)).sum ≤ 1001) : splitL (Lib.join ps [44]) = .ok ps ∧ (Lib.join ps [44]).length ≤ 1000 := by
  cases ps with
  | nil => exact ⟨rfl, Nat.zero_le _⟩
  | cons p ps =>
    have hl := join_lens p ps
    refine ⟨?_, by omega⟩
    unfold splitL
    rw [if_neg (by omega), Lib.join_cons, scan_cut _ p false false [] _ (Nat.le_refl _) (h p (by simp)).scan, List.nil_append, tail_parts ps _ (fun x hx => h x (by simp [hx]))]
    dsimp only
    have e : ((p :: ps).map trimL).filter (fun p => !p.isEmpty) = p :: ps := by
      have e1 : (p :: ps).map trimL = p :: ps := by
        conv => rhs; rw [← List.map_id (p :: ps)]
        exact List.map_congr_left fun x hx => (h x hx).trim
      rw [e1, List.filter_eq_self]
      intro x hx
      rw [(h x hx).some]; rfl
    rw [e, if_neg (by omega)]
end Tok
theorem split_quote (w : World) : Calls Tryd.prog 11 #[.string ⟨#[34]⟩] w fun e w' => e = .returned (.tuple #[.slice none 0 0, .int .i64 3]) ∧ Below w.heap.size w w' := by
  refine (split_any ⟨#[34]⟩ w (by decide)).mono fun e w' ⟨h, hb⟩ => ⟨?_, hb⟩
  have hq : Tok.splitL (sl ⟨#[34]⟩) = .error 3 := by rfl
  unfold SplitAns at h
  rw [hq] at h
  exact h
theorem split_code3 {l : List UInt8} {c : Int} (h : Tok.splitL l = .error c) : 2 ≤ c ∧ c ≤ 3 := by
  unfold Tok.splitL at h
  split at h
  · injection h with h; omega
  · split at h
    · injection h with h; omega
    · split at h
      · injection h with h; omega
      · cases h
set_option maxHeartbeats 1600000 in
theorem tokenAgain_walk (s : ByteArray) (w : World) (hs : s.size ≤ 140737488351232) :
    Calls Tryd.prog 4 #[.string s] w fun e w' => e = .returned (.bool true) ∧ Below w.heap.size w w' := by
  have HS := Lib.hid (split_any s w hs)
  go_enter Tryd.func4, Tryd.ntmps4
  go_wp2_with fail
  refine HS.out.mono ?_
  rintro e w1 ⟨hans, b1⟩
  unfold SplitAns at hans
  cases hsp : Tok.splitL (sl s) with
  | error c =>
    rw [hsp] at hans
    dsimp only at hans
    subst hans
    have hc := split_code3 hsp
    have hne : (c != 0) = true := by simp; omega
    clear hsp
    go_wp2_with fail
    refine (split_quote _).mono ?_
    rintro e w2 ⟨rfl, b2⟩
    go_wp2_with fail
    go_ret
    exact ⟨rfl, belT b1 b2⟩
  | ok ps =>
    rw [hsp] at hans
    dsimp only at hans
    obtain ⟨v, rfl, hown⟩ := hans
    obtain ⟨hp1, hp2, hp3⟩ := Tok.split_parts hsp
    obtain ⟨ha1, ha2⟩ := Tok.split_again hp1 hp2 hp3
    have hr := SlR.of_owns hown
    have hjl : joinL (ps.map mkS) ⟨#[44]⟩ = Lib.join ps [44] := by
      unfold joinL
      rw [List.map_map]
      congr 1
      exact (List.map_congr_left (fun x _ => sl_mkS x)).trans (List.map_id _)
    have hj2 : (joinL (ps.map mkS) ⟨#[44]⟩).length ≤ 1000 := by rw [hjl]; exact ha2
    have hJ : Hid (Tok.splitL (sl (joinS (ps.map mkS) ⟨#[44]⟩)) = .ok ps ∧ (joinS (ps.map mkS) ⟨#[44]⟩).size ≤ 1000) := by
      unfold joinS
      rw [sl_mkS, mkS_size]
      exact ⟨by rw [hjl]; exact ha1, hj2⟩
    have hps : ∀ t ∈ ps.map mkS, t.size ≤ 1000 ∧ mkS (Tok.trimL (sl t)) = t ∧ t.toList.isEmpty = false := by
      intro t ht
      obtain ⟨p, hp, rfl⟩ := List.mem_map.1 ht
      have hpp := hp1 p hp
      have hpl : p.length + 1 ≤ 1001 := by
        have : p.length + 1 ≤ (ps.map (fun p => p.length + 1)).sum := sum_mem (fun p : List UInt8 => p.length + 1) hp
        omega
      refine ⟨by rw [mkS_size]; omega, by rw [sl_mkS, hpp.trim], by rw [ba_toList, sl_mkS]; exact hpp.some⟩
    have hl : (ps.map mkS).length ≤ 20 := by rw [List.length_map]; exact hp2
    have HPS := Lib.hid hps
    have HJL := Lib.hid (fun w' v' (hw : SlR w' es v' (ps.map mkS)) => join_any v' (ps.map mkS) ⟨#[44]⟩ w' hw (by omega) (by omega))
    have HM : Hid (∀ xs : List ByteArray, ps.map mkS = xs → ps.map mkS = xs) := fun _ h => h
    generalize joinS (ps.map mkS) ⟨#[44]⟩ = J at *
    generalize hxs : ps.map mkS = xs at *
    have HXS := Lib.hid hxs
    clear hps hown hp1 hp2 hp3 ha1 ha2 hjl hj2 hsp HM hxs
    have HR := Lib.hid hr
    have HX := Lib.hid (fun (hn : 0 < xs.length) => hr.texts hn)
    obtain ⟨A, c, rfl, hcap, -⟩ := hr
    go_wp2_with fail
    refine (split_quote _).mono ?_
    rintro e w2 ⟨rfl, b2⟩
    go_wp2_with fail
    refine (HJL.out _ _ (HR.out.below b2)).mono ?_
    rintro e w3 ⟨rfl, b3⟩
    go_wp2_with fail
    refine (split_any J _ (by have := hJ.out.2; omega)).mono ?_
    rintro e w4 ⟨hans, b4⟩
    unfold SplitAns at hans
    rw [hJ.out.1] at hans
    dsimp only at hans
    obtain ⟨v2, rfl, hown2⟩ := hans
    rw [HXS.out] at hown2
    have HR2 := Lib.hid (SlR.of_owns hown2)
    clear hown2
    have b14 : Below w1.heap.size w1 w4 := belT (belT b2 b3) b4
    go_wp2_with fail
    go_loopw [35] (fun i wr => ∃ k : Nat, k ≤ xs.length ∧ i = .int .i64 k ∧ Below w4.heap.size w4 wr) (fun i _ => xs.length - (intOf i).toNat)
    case atStart => exact ⟨0, by omega, rfl, Below.refl _ _⟩
    case round =>
      obtain ⟨k, hk, rfl, hbel⟩ := hrel
      by_cases hlt : k < xs.length
      · obtain ⟨b, off, c', he, _, hbb, hcell⟩ := HX.out (by omega)
        obtain ⟨rfl, rfl⟩ : A = some ⟨b, off, none⟩ ∧ c = c' := by injection he with h1 h2 h3; exact ⟨h1, h3⟩
        have c0 := (hbel.cell (p := ⟨b, off + k, none⟩) (Nat.lt_of_lt_of_le hbb b14.size)).trans ((b14.cell hbb).trans (hcell k hlt))
        obtain ⟨hz, htr, hne⟩ := HPS.out xs[k] (List.getElem_mem hlt)
        clear hcell he
        generalize xs[k] = t at *
        have HT := Lib.hid (fun w => strTrim_any t w (by omega))
        rw [htr] at HT
        clear htr
        go_wp2_with fail
        refine (HT.out _).mono ?_
        rintro e w5 ⟨rfl, b5⟩
        have hself : (!(t.toList == t.toList)) = false := by simp
        go_wp2_with fail
        go_roundw
        case rel => exact ⟨k + 1, by omega, by go_num, hbel.trans (b5.mono hbel.size)⟩
        case measure => simp [intOf]; omega
      · go_wp2_with fail
        refine (eqStr_any _ v2 xs xs _ ((HR.out.below b14).below hbel) (HR2.out.below hbel) (by omega) (by omega)).mono ?_
        rintro e w' ⟨rfl, rfl⟩
        rw [show SameTexts xs xs = true from by unfold SameTexts; simp]
        go_wp2_with fail
        go_ret
        exact ⟨rfl, belT (belT b1 b14) hbel⟩
end Go.Proofs.YtdoeipjcohkbeaaDoor
