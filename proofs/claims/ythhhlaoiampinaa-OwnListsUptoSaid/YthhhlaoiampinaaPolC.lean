/- policy's hops, without, Strip and Freshen: what they answer. -/
import Derived.Test.YthhhlaoiampinaaPolB
import Derived.ArgAppend
namespace Go.Proofs.Ythhhlaoiampinaa
set_option maxRecDepth 20000
open Go.RowKit
namespace Pol
def txt (l : List Fld) (n : ByteArray) : ByteArray := joinS (selF l n) sep2
def isR (l : List Fld) (n : ByteArray) : Bool := decide (0 < (selF l n).length)
def wt (l : List Fld) : Nat := (l.map (fun f => f.1.size + f.2.size + 2)).sum
structure FOk (w : World) (u : Value) (l : List Fld) : Prop where
  sl : SlR w e_ss u l
  sum : wt l ≤ 4398046511104
theorem FOk.below {w w' : World} {u : Value} {l : List Fld} (h : FOk w u l) (hb : Below w.heap.size w w') : FOk w' u l := ⟨h.sl.below hb, h.sum⟩
theorem wt_len (l : List Fld) : l.length ≤ wt l := sum_len _ (fun _ => by omega) l
theorem wt_sum (l : List Fld) : (l.map (fun f => f.2.size + 2)).sum ≤ wt l := by
  unfold wt
  induction l with
  | nil => simp
  | cons x m ih => simp only [List.map_cons, List.sum_cons]; omega
theorem FOk.len {w : World} {u : Value} {l : List Fld} (h : FOk w u l) : l.length * 32 ≤ 140737488355328 := by have := wt_len l; have := h.sum; omega
theorem FOk.lims {w : World} {u : Value} {l : List Fld} (h : FOk w u l) : Lims l := fun f hf => by have := sum_mem (fun d : Fld => d.1.size + d.2.size + 2) hf; have := h.sum; unfold wt at this; omega
theorem FOk.join {w : World} {u : Value} {l : List Fld} (h : FOk w u l) (n : ByteArray) : (joinL (selF l n) sep2).length ≤ 140737488351232 := Nat.le_trans (selF_join l n) (by have := wt_sum l; have := h.sum; omega)
theorem wt_append (l m : List Fld) : wt (l ++ m) = wt l + wt m := by unfold wt; rw [List.map_append, List.sum_append]
theorem wt_filter (p : Fld → Bool) : ∀ l : List Fld, wt (l.filter p) ≤ wt l
  | [] => Nat.le_refl _
  | x :: l => by
    have ih := wt_filter p l
    unfold wt at *
    rw [List.filter_cons]
    split
    · simp only [List.map_cons, List.sum_cons]; omega
    · simp only [List.map_cons, List.sum_cons]; omega
theorem getP_any (u : Value) (l : List Fld) (n : ByteArray) (w : World) (h : FOk w u l) (hn : n.size ≤ 140737488351232) :
    Calls Try.prog 17 #[u, .string n] w fun e w' => e = .returned (.tuple #[.string (txt l n), .bool (isR l n)]) ∧ Below w.heap.size w w' := get_any u l n w h.sl h.len h.lims hn (h.join n)
def hop7 : List ByteArray := [⟨#[99, 111, 110, 110, 101, 99, 116, 105, 111, 110]⟩, ⟨#[107, 101, 101, 112, 45, 97, 108, 105, 118, 101]⟩, ⟨#[112, 114, 111, 120, 121, 45, 99, 111, 110, 110, 101, 99, 116, 105, 111, 110]⟩, ⟨#[116, 101]⟩, ⟨#[116, 114, 97, 105, 108, 101, 114]⟩, ⟨#[116, 114, 97, 110, 115, 102, 101, 114, 45, 101, 110, 99, 111, 100, 105, 110, 103]⟩, ⟨#[117, 112, 103, 114, 97, 100, 101]⟩]
def below4 : List ByteArray := [⟨#[99, 111, 110, 116, 101, 110, 116, 45, 108, 101, 110, 103, 116, 104]⟩, ⟨#[99, 111, 110, 116, 101, 110, 116, 45, 114, 97, 110, 103, 101]⟩, ⟨#[99, 111, 110, 116, 101, 110, 116, 45, 101, 110, 99, 111, 100, 105, 110, 103]⟩, ⟨#[99, 111, 110, 116, 101, 110, 116, 45, 116, 121, 112, 101]⟩]
def nConn : ByteArray := ⟨#[67, 111, 110, 110, 101, 99, 116, 105, 111, 110]⟩
def partsF (l : List Fld) : List ByteArray := match Tok.splitL (sl (txt l nConn)) with | .ok ps => ps.map mkS | .error _ => []
def hopsF (l : List Fld) : List ByteArray := hop7 ++ (partsF l).map lowS
open Tok in
theorem cutL_short (sign : UInt8) : ∀ (n : Nat) (l : List UInt8) (q : Bool) (cur : List UInt8) (ps : List (List UInt8)), l.length ≤ n → cutL sign q cur l = some ps → ∀ p ∈ ps, p.length ≤ cur.length + l.length
  | _, [], q, cur, ps, _, h, p, hp => by
    unfold cutL at h
    cases q
    · simp only [Bool.false_eq_true, if_false, Option.some.injEq] at h; subst h; rw [List.mem_singleton] at hp; subst hp; omega
    · simp at h
  | 0, c :: l, _, _, _, hn, _, _, _ => by simp at hn
  | n + 1, c :: l, q, cur, ps, hn, h, p, hp => by
    simp only [List.length_cons] at hn
    unfold cutL at h
    split at h
    · have := cutL_short sign n l _ _ ps (by omega) h p hp
      simp only [List.length_append, List.length_cons, List.length_nil] at this ⊢; omega
    · split at h
      · cases l with
        | nil => simp at h
        | cons d l =>
          simp only [List.length_cons] at hn
          have := cutL_short sign n l _ _ ps (by omega) h p hp
          simp only [List.length_append, List.length_cons, List.length_nil] at this ⊢; omega
      · split at h
        · obtain ⟨qs, hq, rfl⟩ := Option.map_eq_some_iff.1 h
          rcases List.mem_cons.1 hp with rfl | hp
          · omega
          · have := cutL_short sign n l _ _ qs (by omega) hq p hp
            simp only [List.length_cons, List.length_nil] at this ⊢; omega
        · have := cutL_short sign n l _ _ ps (by omega) h p hp
          simp only [List.length_append, List.length_cons, List.length_nil] at this ⊢; omega
open Tok in
theorem trimL_le (l : List UInt8) : (trimL l).length ≤ l.length := by
  unfold trimL
  rw [List.length_reverse]
  refine Nat.le_trans (List.dropWhile_sublist _).length_le ?_
  rw [List.length_reverse]
  exact (List.dropWhile_sublist _).length_le
open Tok in
theorem split_short {l : List UInt8} {ps : List (List UInt8)} (h : splitL l = .ok ps) : (∀ p ∈ ps, p.length ≤ 1000) ∧ ps.length ≤ 20 ∧ l.length ≤ 1000 := by
  unfold splitL at h
  split at h
  · cases h
  · rename_i hl
    cases hc : cutL 44 false [] l with
    | none => rw [hc] at h; cases h
    | some qs =>
      rw [hc] at h
      dsimp only at h
      split at h
      · cases h
      · rename_i h20
        injection h with h
        subst h
        refine ⟨fun p hp => ?_, by omega, by omega⟩
        obtain ⟨q, hq, rfl⟩ := List.mem_map.1 (List.mem_filter.1 hp).1
        have h1 := trimL_le q
        have h2 := cutL_short 44 _ l _ _ qs (Nat.le_refl _) hc q hq
        simp only [List.length_nil] at h2; omega
theorem parts_len (l : List Fld) : (partsF l).length ≤ 20 := by
  unfold partsF
  split
  · rename_i ps h
    rw [List.length_map]; exact (split_short h).2.1
  · simp
theorem parts_size (l : List Fld) : ∀ p ∈ partsF l, p.size ≤ 140737488351232 := by
  unfold partsF
  split
  · rename_i ps h
    intro p hp
    obtain ⟨q, hq, rfl⟩ := List.mem_map.1 hp
    rw [mkS_size]
    have := (split_short h).1 q hq; omega
  · simp
def stripF (l : List Fld) : List Fld := keepW (hopsF l) l
def namesF (l : List Fld) : List ByteArray := (l.map (fun f => lowS f.1)).filter (fun n => !hasB below4 n)
def freshF (old now : List Fld) : List Fld := keepW (namesF now) old ++ keepW below4 (stripF now)
theorem keepW_len (ns : List ByteArray) (l : List Fld) : (keepW ns l).length ≤ l.length := List.length_filter_le ..
theorem keepW_lims {l : List Fld} (ns : List ByteArray) (h : Lims l) : Lims (keepW ns l) := fun f hf => h f (List.mem_filter.1 hf).1
theorem hop_cells : ([.string ⟨#[99, 111, 110, 110, 101, 99, 116, 105, 111, 110]⟩, .string ⟨#[107, 101, 101, 112, 45, 97, 108, 105, 118, 101]⟩, .string ⟨#[112, 114, 111, 120, 121, 45, 99, 111, 110, 110, 101, 99, 116, 105, 111, 110]⟩, .string ⟨#[116, 101]⟩, .string ⟨#[116, 114, 97, 105, 108, 101, 114]⟩, .string ⟨#[116, 114, 97, 110, 115, 102, 101, 114, 45, 101, 110, 99, 111, 100, 105, 110, 103]⟩, .string ⟨#[117, 112, 103, 114, 97, 100, 101]⟩] : List Value) = hop7.flatMap es := rfl
theorem below_cells : ([.string ⟨#[99, 111, 110, 116, 101, 110, 116, 45, 108, 101, 110, 103, 116, 104]⟩, .string ⟨#[99, 111, 110, 116, 101, 110, 116, 45, 114, 97, 110, 103, 101]⟩, .string ⟨#[99, 111, 110, 116, 101, 110, 116, 45, 101, 110, 99, 111, 100, 105, 110, 103]⟩, .string ⟨#[99, 111, 110, 116, 101, 110, 116, 45, 116, 121, 112, 101]⟩] : List Value) = below4.flatMap es := rfl
/-- append onto a list of one's own that is full: the result lies in a new block. -/
theorem wpList_append_full {P : Program} {α : Type} {ops : Array Oper} {rest : List Oper} {o : Oper} {a : Act} {Q : Exit → Act → World → Prop} {w : World} (hgd : o.guard = none) (s x : Operand) (t : TypeId)
    (ho : o.op = .call { callee := .builtin .append, args := #[s, x], argTypes := #[t, t] })
    (base : Nat) (e : TypeId) (z : Value) (size bytes : Nat) (enc : α → List Value) (ht : P.underlying t = some (.slice e)) (hi : ElemInfo P e z size bytes)
    (hzs : z.cells.size = size) (hsz : 0 < size) (hen : ∀ x, (enc x).length = size)
    (g n : Nat) (xs : List α) (hn : n = xs.length) (hs : a.eval s = .slice (some ⟨g, 0, none⟩) n n) (hown : Owns w base e size enc (.slice (some ⟨g, 0, none⟩) n n) xs)
    (ad : Addr) (m c : Nat) (news : List α) (hx : a.eval x = .slice (some ad) m c) (hm : m = news.length) (hm0 : 0 < m) (hnews : ∀ j u, (news.flatMap enc)[j]? = some u → w.cell? (ad.add j) = some u) (h1 : ∀ u ∈ news.flatMap enc, u.oneCell' = true)
    (h63 : n + m ≤ maxLen) (hbytes : (n + m) * bytes ≤ 140737488355328)
    (h : ∀ v' w', Owns w' w.heap.size e size enc v' (xs ++ news) → Below w.heap.size w w' → wpList P ops Q rest (a.put o.dst v') w') : wpList P ops Q (o :: rest) a w := by
  obtain ⟨i, hi0, hz0, hz1, hz2⟩ := info_parts hi
  subst hn
  refine wpList_append_grows w hgd s x t ho e i z size bytes ht hi0 hz0 hz1 hz2 hzs hsz (some ⟨g, 0, none⟩) xs.length xs.length (xs.flatMap enc) hs (fun h => by cases h) (flat_len hen xs) (fun b hb j u hu => ?_) ad m c (news.flatMap enc) hx (by rw [hm]; exact flat_len hen news) hnews h1 (by omega) h63 hbytes (fun v' w' h2 h3 => h v' w' ?_ ?_)
  · injection hb with hb
    subst hb
    exact World.ownsRow.cells hown (g := g) rfl j u hu
  · unfold Owns
    rw [List.length_append, List.flatMap_append, ← hm]
    exact h2
  · exact ⟨h3.os, h3.tape, h3.output, h3.size, fun k hk => h3.block k hk (by intro e; cases e)⟩
set_option maxHeartbeats 3200000 in
theorem hops_any (u : Value) (l : List Fld) (w : World) (h : FOk w u l) :
    Calls Try.prog 41 #[u] w fun e w' => (∃ v, e = .returned v ∧ Owns w' w.heap.size 9 1 es v (hopsF l)) ∧ Below w.heap.size w w' := by
  have b0 : Below w.heap.size w (w.alloc (.cells #[.string ⟨#[99, 111, 110, 110, 101, 99, 116, 105, 111, 110]⟩, .string ⟨#[107, 101, 101, 112, 45, 97, 108, 105, 118, 101]⟩, .string ⟨#[112, 114, 111, 120, 121, 45, 99, 111, 110, 110, 101, 99, 116, 105, 111, 110]⟩, .string ⟨#[116, 101]⟩, .string ⟨#[116, 114, 97, 105, 108, 101, 114]⟩, .string ⟨#[116, 114, 97, 110, 115, 102, 101, 114, 45, 101, 110, 99, 111, 100, 105, 110, 103]⟩, .string ⟨#[117, 112, 103, 114, 97, 100, 101]⟩] 9)) := (Below.refl _ _).alloc (Nat.le_refl _) _
  have HO : Hid (Owns (w.alloc (.cells #[.string ⟨#[99, 111, 110, 110, 101, 99, 116, 105, 111, 110]⟩, .string ⟨#[107, 101, 101, 112, 45, 97, 108, 105, 118, 101]⟩, .string ⟨#[112, 114, 111, 120, 121, 45, 99, 111, 110, 110, 101, 99, 116, 105, 111, 110]⟩, .string ⟨#[116, 101]⟩, .string ⟨#[116, 114, 97, 105, 108, 101, 114]⟩, .string ⟨#[116, 114, 97, 110, 115, 102, 101, 114, 45, 101, 110, 99, 111, 100, 105, 110, 103]⟩, .string ⟨#[117, 112, 103, 114, 97, 100, 101]⟩] 9)) w.heap.size 9 1 es (.slice (some ⟨w.heap.size, 0, none⟩) 7 7) hop7) := Owns.lit (size := 1) (enc := es) (e := 9) w w.heap.size #[.string ⟨#[99, 111, 110, 110, 101, 99, 116, 105, 111, 110]⟩, .string ⟨#[107, 101, 101, 112, 45, 97, 108, 105, 118, 101]⟩, .string ⟨#[112, 114, 111, 120, 121, 45, 99, 111, 110, 110, 101, 99, 116, 105, 111, 110]⟩, .string ⟨#[116, 101]⟩, .string ⟨#[116, 114, 97, 105, 108, 101, 114]⟩, .string ⟨#[116, 114, 97, 110, 115, 102, 101, 114, 45, 101, 110, 99, 111, 100, 105, 110, 103]⟩, .string ⟨#[117, 112, 103, 114, 97, 100, 101]⟩] hop7 (Nat.le_refl _) (by decide) rfl rfl
  have HG := Lib.hid (fun w' (hb : Below w.heap.size w w') => getP_any u l nConn w' (h.below hb) (by decide))
  have HT : (txt l nConn).size ≤ 140737488351232 := by unfold txt joinS; rw [mkS_size]; exact h.join nConn
  have HP : Hid (partsF l = match Tok.splitL (sl (txt l nConn)) with | .ok ps => ps.map mkS | .error _ => []) := rfl
  have hpl := parts_len l
  have HPS := Lib.hid (parts_size l)
  have HH : Hid (hopsF l = hop7 ++ (partsF l).map lowS) := rfl
  clear h
  generalize hopsF l = H at *
  generalize partsF l = ps at *
  generalize txt l nConn = T at *
  generalize isR l nConn = q at *
  go_enter Try.func41, Try.ntmps41
  go_wp2_with fail
  refine (HG.out _ b0).mono ?_
  rintro e w1 ⟨rfl, b1⟩
  have B1 := b0.trans (b1.mono b0.size)
  have HO1 := Lib.hid (HO.out.below b1)
  go_wp2_with fail
  refine (split_any T _ HT).mono ?_
  rintro e w2 ⟨hans, b2⟩
  have B2 := belT B1 b2
  have HO2 := Lib.hid (HO1.out.below b2)
  have hans2 : ∃ v c, e = .returned (.tuple #[v, .int .i64 c]) ∧ SlR w2 es v ps := by
    unfold SplitAns at hans
    have hp := HP.out
    split at hans
    · rename_i c hc
      rw [hc] at hp
      dsimp only at hp
      subst hp
      exact ⟨_, _, hans, SlR.nil _ _⟩
    · rename_i out hc
      rw [hc] at hp
      dsimp only at hp
      subst hp
      obtain ⟨v, he, ho⟩ := hans
      exact ⟨v, 0, he, SlR.of_owns ho⟩
  obtain ⟨v, c, rfl, hsl⟩ := hans2
  have HSL := Lib.hid hsl
  have H2 := Lib.hid (fun hn => hsl.texts hn)
  obtain ⟨A, cc, rfl, hcc, -⟩ := hsl
  have h7 : hop7.length = 7 := rfl
  have HO3 : Hid (Owns w2 w.heap.size 9 1 es (.slice (some ⟨w.heap.size, 0, none⟩) 7 7) hop7) := HO2.out
  have hw2 : w.heap.size ≤ w2.heap.size := B2.size
  clear hans HP HO HO1 HO2 HG
  go_wp2_with fail
  go_loopw [3, 23] (fun t i wr => ∃ k : Nat, k ≤ ps.length ∧ i = .int .i64 k ∧ ((k = 0 ∧ t = .slice (some ⟨w.heap.size, 0, none⟩) 7 7 ∧ Owns wr w.heap.size 9 1 es t hop7) ∨ (0 < k ∧ Owns wr w2.heap.size 9 1 es t (hop7 ++ (ps.take k).map lowS))) ∧ Below w2.heap.size w2 wr) (fun _ i _ => ps.length - (intOf i).toNat)
  case atStart => exact ⟨0, by omega, rfl, .inl ⟨rfl, rfl, HO3.out⟩, Below.refl _ _⟩
  case round =>
    obtain ⟨k, hk, rfl, hown, hbel⟩ := hrel
    by_cases hlt : k < ps.length
    · obtain ⟨b, off, c', he, _, hbb, hcell⟩ := H2.out (by omega)
      obtain ⟨rfl, rfl⟩ : A = some ⟨b, off, none⟩ ∧ cc = c' := by injection he with h1 h2 h3; exact ⟨h1, h3⟩
      have c0 := (hbel.cell (p := ⟨b, off + k, none⟩) hbb).trans (hcell k hlt)
      have hsz := HPS.out _ (List.getElem_mem hlt)
      have HTK : Hid ((ps.take (k + 1)).map lowS = (ps.take k).map lowS ++ [lowS ps[k]]) := by
        show _ = _; rw [List.take_add_one, List.getElem?_eq_getElem hlt, List.map_append]; rfl
      have hlen : (hop7 ++ (ps.take k).map lowS).length = 7 + k := by rw [List.length_append, List.length_map, List.length_take, h7]; omega
      clear hcell he
      generalize ps[k] = x at *
      rcases hown with ⟨rfl, rfl, ho⟩ | ⟨hk0, ho⟩
      · have HOW := Lib.hid ho
        clear ho
        rw [Nat.add_zero] at c0
        go_wp2_with fail
        refine (lower_any x _ hsz).mono ?_
        rintro e w3 ⟨rfl, b3⟩
        have B3 := belT hbel b3
        have HO3 := Lib.hid ((HOW.out.below b3).alloc (.cells #[.string (mkS (Tok.low (sl x)))] 9))
        have b4 := B3.alloc B3.size (.cells #[.string (mkS (Tok.low (sl x)))] 9)
        have HNC := Lib.hid (new_cells w3 [.string (mkS (Tok.low (sl x)))] 9)
        go_wp2_with (at_builtin; go_must (refine wpList_append_full rfl (.tmp 27) (.tmp 30) _ rfl w.heap.size 9 (.string ByteArray.empty) 1 16 es Try.underlying42 stringInfo rfl (by decide) (fun _ => rfl) w.heap.size 7 hop7 rfl rfl HO3.out ⟨w3.heap.size, 0, none⟩ 1 1 [mkS (Tok.low (sl x))] rfl rfl (by decide) HNC.out (es_one [mkS (Tok.low (sl x))]) (by decide) (by decide) ?_); intro v5 w5 o5 b5)
        have B5 := b4.trans (b5.mono b4.size)
        go_roundw
        case rel => exact ⟨1, by omega, rfl, .inr ⟨by omega, by rw [HTK.out]; exact o5.mono b4.size⟩, B5⟩
        case measure => simp [intOf]; omega
      · obtain ⟨A1, c1, hv1⟩ := ho.slice
        rw [hlen] at hv1
        subst hv1
        have HOW := Lib.hid ho
        clear ho
        go_wp2_with fail
        refine (lower_any x _ hsz).mono ?_
        rintro e w3 ⟨rfl, b3⟩
        have B3 := belT hbel b3
        have HO3 := Lib.hid (HOW.out.below b3)
        go_wp2_with (at_builtin; go_must (refine wpList_append_owns rfl (.tmp 27) (.tmp 30) _ rfl w2.heap.size 9 (.string ByteArray.empty) 1 16 es Try.underlying42 stringInfo rfl (by decide) _ _ rfl (HO3.out.alloc _) ⟨w3.heap.size, 0, none⟩ 1 1 [mkS (Tok.low (sl x))] rfl rfl rfl (new_cells _ [.string (mkS (Tok.low (sl x)))] _) (es_one [mkS (Tok.low (sl x))]) (by rw [hlen]; simp only [maxLen]; omega) (by rw [hlen]; omega) (bel_size B3 (Nat.le_refl _) _) ?_); intro v5 w5 hown5 hg5)
        have B5 := bel_append B3 (Nat.le_refl _) HO3.out hg5
        go_roundw
        case rel => exact ⟨k + 1, by omega, by go_num, .inr ⟨by omega, by rw [HTK.out, ← List.append_assoc]; exact hown5⟩, B5⟩
        case measure => simp [intOf]; omega
    · obtain rfl : k = ps.length := by omega
      have hE : ps.take ps.length = ps := List.take_of_length_le (Nat.le_refl _)
      have B := B2.trans (hbel.mono hw2)
      rcases hown with ⟨h0, rfl, ho⟩ | ⟨h0, ho⟩
      · have HOW : Hid (Owns wr w.heap.size 9 1 es (.slice (some ⟨w.heap.size, 0, none⟩) 7 7) H) := by
          show Owns _ _ _ _ _ _ _
          rw [HH.out, List.length_eq_zero_iff.1 h0, List.map_nil, List.append_nil]; exact ho
        clear ho
        go_wp2_with fail
        go_ret
        exact ⟨⟨_, rfl, HOW.out⟩, B⟩
      · rw [hE, ← HH.out] at ho
        have HOW := Lib.hid (ho.mono hw2)
        clear ho
        go_wp2_with fail
        go_ret
        exact ⟨⟨_, rfl, HOW.out⟩, B⟩
set_option maxHeartbeats 1600000 in
theorem without_any (u v : Value) (l : List Fld) (ns : List ByteArray) (w : World) (h : FOk w u l) (hv : SlR w es v ns) (hns : ns.length ≤ 140737488351232) :
    Calls Try.prog 40 #[u, v] w fun e w' => RetFlds w.heap.size (keepW ns l) e w' ∧ Below w.heap.size w w' := by
  have b0 : Below w.heap.size w (w.alloc (.cells #[v] 42)) := (Below.refl _ _).alloc (Nat.le_refl _) _
  have hl : l.length ≤ 140737488351232 := by have := h.len; omega
  have HC := Lib.hid (cloneFld_any u l _ (h.sl.below b0) h.len)
  have hlims := h.lims
  have HD := Lib.hid (fun x base gn w (hx : Owns w base 31 2 e_ss x l) w0 hc hne hw0 => deleteFldW_any x l base gn ns w hx hl hlims w0 hc hns hne hw0)
  have hcap : CapW (w.alloc (.cells #[v] 42)) w w.heap.size ns := ⟨by simp, ⟨v, by go_simp, hv⟩, by simp, fun p hp => World.cell?_alloc_lt w _ p hp⟩
  have HCap := Lib.hid hcap
  obtain ⟨A, c, rfl, -⟩ := hv.form
  clear h hv hcap
  unfold wfn at HD
  go_enter Try.func40, Try.ntmps40
  go_wp2_with fail
  refine HC.out.mono ?_
  rintro e w1 ⟨⟨x, rfl, o1⟩, b1⟩
  have B1 := b0.trans (b1.mono b0.size)
  have hsz : (w.alloc (.cells #[.slice A ns.length c] 42)).heap.size = w.heap.size + 1 := by simp
  have hne : x.ownBlock ≠ some w.heap.size := fun e => by have := (o1.lt _ e).1; omega
  have HO1 := Lib.hid o1
  clear o1
  go_wp2_with fail
  refine (HD.out x _ w.heap.size _ HO1.out w (HCap.out.below b1) hne (by omega)).mono ?_
  rintro e w2 ⟨⟨y, rfl, o2⟩, g2⟩
  have HO2 := Lib.hid (o2.mono (base' := w.heap.size) (by omega))
  have B2 : Below w.heap.size w w2 := B1.grown g2 B1.size (fun k hk => Nat.le_trans (by omega) (HO1.out.lt k hk).1)
  clear o2 g2
  go_wp2_with fail
  go_ret
  exact ⟨⟨_, rfl, HO2.out⟩, B2⟩
end Pol
end Go.Proofs.Ythhhlaoiampinaa
