/- TokenJoins: the law's walk. -/
import Derived.Test.YtdoeipjcohkbeaaTokJ
namespace Go.Proofs.Ytdoeipjcohkbeaa
open Go.RowKit
/-- Those that 'tokens' takes. -/
def takesT (s : ByteArray) : Bool := Tok.isTok s && decide (s.size ≤ 30)
def toksL (l : List ByteArray) (most : Nat) : List ByteArray := (l.filter takesT).take most
theorem toksL_take {l : List ByteArray} {most k : Nat} (h : k < l.length) : toksL (l.take (k + 1)) most = if takesT l[k] = true ∧ (toksL (l.take k) most).length < most then toksL (l.take k) most ++ [l[k]] else toksL (l.take k) most := by
  unfold toksL
  rw [List.take_add_one, List.getElem?_eq_getElem h, List.filter_append]
  generalize (l.take k).filter takesT = f
  cases hq : takesT l[k]
  · simp [hq]
  · simp only [Option.toList_some, List.filter_cons, hq, if_true, List.filter_nil, true_and]
    by_cases hf : f.length < most
    · rw [if_pos (by rw [List.length_take]; omega), List.take_of_length_le (by simp; omega), List.take_of_length_le (by omega)]
    · rw [if_neg (by rw [List.length_take]; omega), List.take_append_of_le_length (by omega)]
theorem toksL_ok (l : List ByteArray) (most : Nat) : (toksL l most).length ≤ most ∧ ∀ s ∈ toksL l most, Tok.tokOk (sl s) ∧ s.size ≤ 30 := by
  refine ⟨by unfold toksL; rw [List.length_take]; omega, fun s hs => ?_⟩
  have := (List.mem_filter.1 (List.mem_of_mem_take hs)).2
  unfold takesT Tok.isTok at this
  simp only [Bool.and_eq_true, decide_eq_true_eq] at this
  refine ⟨⟨this.1.1, fun e => ?_⟩, this.2⟩
  have h0 : (sl s).length = 0 := by rw [e]; rfl
  rw [sl_len] at h0; omega
def RetTexts (base : Nat) (l : List ByteArray) (e : Ending) (w' : World) : Prop := ∃ u, e = .returned u ∧ Owns w' base 9 1 es u l
set_option maxHeartbeats 1600000 in
theorem tokens_any (v : Value) (l : List ByteArray) (most : Nat) (w : World) (h : SlR w es v l) (hl : l.length ≤ 140737488351232) (hz : ∀ s ∈ l, s.size ≤ 140737488351232) (hm : most ≤ 100) :
    Calls Try.prog 21 #[v, .int .i64 most] w fun e w' => RetTexts w.heap.size (toksL l most) e w' ∧ Below w.heap.size w w' := by
  have h2 := Lib.hid (fun hn => h.texts hn)
  obtain ⟨A, c, rfl, hc, -⟩ := h
  go_enter Try.func21, Try.ntmps21
  go_wp2_with fail
  go_loopw [5, 10] (fun u i wr => ∃ k : Nat, k ≤ l.length ∧ i = .int .i64 k ∧ Owns wr w.heap.size 9 1 es u (toksL (l.take k) most) ∧ Below w.heap.size w wr) (fun _ i _ => l.length - (intOf i).toNat)
  case atStart => exact ⟨0, by omega, rfl, by simpa [toksL] using Owns.nil w w.heap.size 9 1 es, Below.refl _ _⟩
  case round =>
    obtain ⟨k, hk, rfl, hown, hbel⟩ := hrel
    have HO := Lib.hid hown
    obtain ⟨A2, c2, hv⟩ := hown.slice
    subst hv
    clear hown
    by_cases hlt : k < l.length
    · obtain ⟨b, o, c', he, -, hb, hcell⟩ := h2.out (by omega)
      obtain ⟨rfl, rfl⟩ : A = some ⟨b, o, none⟩ ∧ c = c' := by injection he with h1 h2 h3; exact ⟨h1, h3⟩
      have c0 := (hbel.cell (p := ⟨b, o + k, none⟩) hb).trans (hcell k hlt)
      have HT := Lib.hid (toksL_take (most := most) hlt)
      have hs := hz _ (List.getElem_mem hlt)
      generalize l[k] = s at c0 HT hs
      have hlen := (toksL_ok (l.take k) most).1
      obtain ⟨n, hn⟩ : ∃ n, (toksL (l.take k) most).length = n := ⟨_, rfl⟩
      have HN := Lib.hid hn
      rw [hn] at hlen HT ⊢
      clear hcell h2 he hn
      cases hq : Tok.isTok s
      · have HQ := Lib.hid hq
        have HI := Lib.hid (isToken_any s)
        rw [hq] at HI
        clear hq
        go_wp2_with fail
        refine (HI.out _ (by omega)).mono ?_
        rintro e w' ⟨rfl, rfl⟩
        go_wp2_with fail
        go_roundw
        case rel => exact ⟨k + 1, by omega, by go_num, by rw [HT.out, if_neg (by unfold takesT; rw [HQ.out]; simp)]; have := HO.out; rw [HN.out] at this; exact this, hbel⟩
        case measure => simp [intOf]; omega
      · have HQ := Lib.hid hq
        have HI := Lib.hid (isToken_any s)
        rw [hq] at HI
        clear hq
        by_cases h30 : s.size ≤ 30
        · have d30 : decide ((s.size : Int) ≤ 30) = true := by rw [decide_eq_true_eq]; omega
          by_cases hm' : n < most
          · have dm : decide (n < most) = true := decide_eq_true hm'
            go_wp2_with fail
            refine (HI.out _ (by omega)).mono ?_
            rintro e w' ⟨rfl, rfl⟩
            go_wp2_with (at_builtin; go_must (refine wpList_append_owns rfl (.tmp 27) (.tmp 29) _ rfl w.heap.size 9 (.string ByteArray.empty) 1 16 es Try.underlying26 stringInfo rfl (by decide) _ (toksL (l.take k) most) rfl (by have := HO.out.alloc (.cells #[.string s] 9); rw [HN.out] at this; exact this) ⟨wr.heap.size, 0, none⟩ 1 1 [s] rfl rfl rfl (new_cells _ [.string s] _) (es_one [s]) (by rw [HN.out]; simp only [maxLen]; omega) (by rw [HN.out]; omega) (bel_size hbel (Nat.le_refl _) _) ?_); intro v1 w1 hown1 hg1)
            go_roundw
            case rel => exact ⟨k + 1, by omega, by go_num, by rw [HT.out, if_pos ⟨by unfold takesT; rw [HQ.out, decide_eq_true h30]; rfl, hm'⟩]; exact hown1, (hbel.alloc hbel.size _).grown hg1 (by simp; exact Nat.le_trans hbel.size (Nat.le_succ _)) (fun k hk => by have := HO.out; rw [HN.out] at this; exact (this.lt k hk).1)⟩
            case measure => simp [intOf]; omega
          · have dm : decide (n < most) = false := decide_eq_false hm'
            go_wp2_with fail
            refine (HI.out _ (by omega)).mono ?_
            rintro e w' ⟨rfl, rfl⟩
            go_wp2_with fail
            go_roundw
            case rel => exact ⟨k + 1, by omega, by go_num, by rw [HT.out, if_neg (fun hh => hm' hh.2)]; have := HO.out; rw [HN.out] at this; exact this, hbel⟩
            case measure => simp [intOf]; omega
        · have d30 : decide ((s.size : Int) ≤ 30) = false := by rw [decide_eq_false_iff_not]; omega
          go_wp2_with fail
          refine (HI.out _ (by omega)).mono ?_
          rintro e w' ⟨rfl, rfl⟩
          go_wp2_with fail
          go_roundw
          case rel => exact ⟨k + 1, by omega, by go_num, by rw [HT.out, if_neg (by unfold takesT; rw [decide_eq_false h30]; simp)]; have := HO.out; rw [HN.out] at this; exact this, hbel⟩
          case measure => simp [intOf]; omega
    · have hE : l.take k = l := List.take_of_length_le (by omega)
      obtain ⟨n, hn⟩ : ∃ n, (toksL (l.take k) most).length = n := ⟨_, rfl⟩
      have HO' := HO.out
      rw [hn] at HO' ⊢
      rw [hE] at HO'
      have HO2 := Lib.hid HO'
      clear hE HO' hn
      go_wp2_with fail
      go_ret
      exact ⟨⟨_, rfl, HO2.out⟩, hbel⟩
/-- The five gaps. -/
def gaps : List ByteArray := [⟨#[44]⟩, ⟨#[44, 32]⟩, ⟨#[32, 44, 9]⟩, ⟨#[44, 44]⟩, ⟨#[32, 44, 32, 44, 32]⟩]
theorem gaps_ok : ∀ g ∈ gaps, Tok.Gap (sl g) ∧ g.size ≤ 5 := by
  intro g hg
  simp only [gaps, List.mem_cons, List.not_mem_nil, or_false] at hg
  rcases hg with rfl | rfl | rfl | rfl | rfl
  · exact ⟨⟨by decide, [], [], rfl, rfl⟩, by decide⟩
  · exact ⟨⟨by decide, [], [32], rfl, rfl⟩, by decide⟩
  · exact ⟨⟨by decide, [32], [9], rfl, by decide⟩, by decide⟩
  · exact ⟨⟨by decide, [], [44], rfl, rfl⟩, by decide⟩
  · exact ⟨⟨by decide, [32], [32, 44, 32], rfl, by decide⟩, by decide⟩
theorem split_x : Tok.splitL (sl ⟨#[120]⟩) = .ok [[120]] := by kernel_rfl
def Wide (n : Int) : Prop := -9223372036854775808 ≤ n ∧ n ≤ 9223372036854775807
theorem wide_of {n : Int} (h : (Lit.int .i64 n).wf = true) : Wide n := by
  simp only [Lit.wf, Bool.and_eq_true, decide_eq_true_eq] at h
  exact ⟨h.1, h.2⟩
theorem tmod_way (n m : Int) (hm : 0 < m) : (0 ≤ n.tmod m → n.tmod m = n % m) ∧ (n.tmod m < 0 → n.tmod m + m = n % m) := by
  have h := Int.tmod_eq_emod (a := n) (b := m)
  have h0 := Int.emod_nonneg n (b := m) (by omega)
  have h1 := Int.emod_lt_of_pos n hm
  split at h
  · omega
  · rw [show (m.natAbs : Int) = m from by omega] at h; omega
set_option maxHeartbeats 400000 in
theorem rest_any (n m : Int) (w : World) (h0 : Wide n) (hm : 0 < m ∧ m ≤ 4611686018427387904) :
    Calls Try.prog 22 #[.int .i64 n, .int .i64 m] w fun e w' => e = .returned (.int .i64 (n % m)) ∧ w = w' := by
  have h := h0
  unfold Wide at h
  have ht := tmod_way n m hm.1
  have h2 := Int.emod_nonneg n (b := m) (by omega)
  have h1 := Int.emod_lt_of_pos n hm.1
  have hz : (m == 0) = false := by rw [beq_eq_false_iff_ne]; omega
  generalize hr : n % m = r at *
  have HT := Lib.hid ht
  clear ht hr
  go_enter Try.func22, Try.ntmps22
  go_wp2
  all_goals
    go_ret
    refine ⟨ret_int ?_, rfl⟩
  · rw [← HT.out.2 (by assumption)]
    have := HT.out.2 (by assumption)
    unfold wrap64; omega
  · exact HT.out.1 (by assumption)
set_option maxRecDepth 100000 in
set_option maxHeartbeats 3200000 in
theorem tokenJoins_core (v : Value) (l : List ByteArray) (n : Int) (w : World) (h : SlR w es v l) (hl : l.length ≤ 140737488351232) (hz : ∀ s ∈ l, s.size ≤ 140737488351232) (hn : Wide n) :
    Calls Try.prog 9 #[v, .int .i64 n] w fun e w' => e = .returned (.bool true) ∧ Below w.heap.size w w' := by
  obtain ⟨hlen, hall⟩ := toksL_ok l 15
  have hB := Lib.hid (tokens_any v l 15 w h hl hz (by omega))
  generalize toksL l 15 = T at *
  have h0 := Int.emod_nonneg n (b := 5) (by omega)
  have h1 := Int.emod_lt_of_pos n (b := 5) (by omega)
  have hR := Lib.hid (rest_any n 5)
  obtain ⟨k, hk, hk5⟩ : ∃ k : Nat, n % 5 = (k : Int) ∧ k < 5 := ⟨(n % 5).toNat, by omega, by omega⟩
  rw [hk] at hR
  clear hk h0 h1
  have hsp : Hid (∀ g ∈ gaps, Tok.splitL (sl (g ++ joinS T g ++ g)) = .ok (T.map sl) ∧ (g ++ joinS T g ++ g).size ≤ 1000) := by
    intro g hg
    obtain ⟨hgap, hg5⟩ := gaps_ok g hg
    have hjl : (joinL T g).length ≤ 525 := by
      refine Nat.le_trans (joinL_len T g) ?_
      have : ∀ l : List ByteArray, (∀ t ∈ l, t.size ≤ 30) → (l.map (fun x => x.size + g.size)).sum ≤ 35 * l.length := by
        intro l
        induction l with
        | nil => simp
        | cons x l ih => intro hl; have := ih (fun t ht => hl t (by simp [ht])); have := hl x (by simp); simp only [List.map_cons, List.sum_cons, List.length_cons]; omega
      have := this T (fun t ht => (hall t ht).2)
      omega
    refine ⟨?_, ?_⟩
    · rw [sl_append, sl_append, List.append_assoc]
      unfold joinS
      rw [sl_mkS]
      refine Tok.split_joined hgap (by rw [sl_len]; exact hg5) (T.map sl) (fun t ht => ?_) (by rw [List.length_map]; exact hlen)
      obtain ⟨s, hs, rfl⟩ := List.mem_map.1 ht
      exact ⟨(hall s hs).1, by rw [sl_len]; exact (hall s hs).2⟩
    · rw [ByteArray.size_append, ByteArray.size_append]; unfold joinS; rw [mkS_size]; omega
  have hTm : Hid ((T.map sl).map mkS = T) := by
    show _ = _
    rw [List.map_map]
    exact (List.map_congr_left (fun a _ => mkS_sl a)).trans (List.map_id _)
  have hjj : Hid (∀ g ∈ gaps, (joinL T g).length ≤ 140737488351232) := fun g hg => by
    have := (hsp.out g hg).2
    rw [ByteArray.size_append, ByteArray.size_append] at this
    unfold joinS at this; rw [mkS_size] at this; omega
  go_enter Try.func9, Try.ntmps9
  go_wp2_with fail
  refine hB.out.mono ?_
  rintro e w1 ⟨⟨u, rfl, o1⟩, b1⟩
  have T1 := Lib.hid (SlR.of_owns o1)
  clear o1
  go_wp2_with fail
  refine (hR.out _ hn (by omega)).mono ?_
  rintro e w' ⟨rfl, rfl⟩
  have hk' : k = 0 ∨ k = 1 ∨ k = 2 ∨ k = 3 ∨ k = 4 := by omega
  clear hR hk5
  rcases hk' with rfl | rfl | rfl | rfl | rfl
  · have hg : (⟨#[44]⟩ : ByteArray) ∈ gaps := by simp [gaps]
    obtain ⟨hS, hS2⟩ := hsp.out _ hg
    have hjl := hjj.out _ hg
    have hgz : (⟨#[44]⟩ : ByteArray).size = 1 := rfl
    obtain ⟨J, hJ⟩ : ∃ J, joinS T ⟨#[44]⟩ = J := ⟨_, rfl⟩
    obtain ⟨X, hX⟩ : ∃ X, (⟨#[44]⟩ : ByteArray) ++ J ++ ⟨#[44]⟩ = X := ⟨_, rfl⟩
    rw [hJ, hX] at hS hS2
    have HS := Lib.hid hS
    have hJz : J.size ≤ 1000 := by rw [← hX, ByteArray.size_append, ByteArray.size_append] at hS2; omega
    have hs1 : (⟨#[44]⟩ : ByteArray).size + J.size ≤ 9223372036854775807 := by rw [hgz]; omega
    have hs2 : ((⟨#[44]⟩ : ByteArray) ++ J).size + (⟨#[44]⟩ : ByteArray).size ≤ 9223372036854775807 := by rw [ByteArray.size_append, hgz]; omega
    have HJ := Lib.hid hJ
    clear hS hg hgz hJ
    go_wp2_with fail
    refine (join_any u T ⟨#[44]⟩ _ (T1.out.alloc _) (by omega) hjl).mono ?_
    rintro e w2 ⟨rfl, b2⟩
    rw [HJ.out]
    have b2' := ((Below.refl w1.heap.size w1).alloc (Nat.le_refl _) _).trans (b2.mono (by simp))
    clear b2
    go_wp2_with fail
    refine (split_any X _ (by omega)).mono ?_
    rintro e w3 ⟨hsa, b3⟩
    clear hX hs1 hs2
    unfold SplitAns at hsa
    rw [HS.out] at hsa
    obtain ⟨va, rfl, oa⟩ := hsa
    rw [hTm.out] at oa
    have VA := Lib.hid (SlR.of_owns oa)
    clear oa
    go_wp2_with fail
    refine (split_any ⟨#[120]⟩ _ (by decide)).mono ?_
    rintro e w4 ⟨hsb, b4⟩
    unfold SplitAns at hsb
    rw [split_x] at hsb
    obtain ⟨vb, rfl, ob⟩ := hsb
    have VB := Lib.hid (SlR.of_owns ob)
    clear ob
    go_wp2_with fail
    refine (eqStr_any va u T T _ (VA.out.below b4) (((T1.out.below b2').below b3).below b4) (by omega) (by omega)).mono ?_
    rintro e w' ⟨rfl, rfl⟩
    rw [show SameTexts T T = true from by unfold SameTexts; simp]
    go_wp2_with fail
    refine (eqStr_any vb _ [⟨#[120]⟩] [⟨#[120]⟩] _ (VB.out.alloc _) (SlR.lit (enc := es) w4 [.string ⟨#[120]⟩] _ [(⟨#[120]⟩ : ByteArray)] rfl) (by decide) (by decide)).mono ?_
    rintro e w' ⟨rfl, rfl⟩
    rw [show SameTexts [(⟨#[120]⟩ : ByteArray)] [⟨#[120]⟩] = true from by unfold SameTexts; simp]
    go_wp2_with fail
    go_ret
    exact ⟨rfl, (belT (belT (belT b1 b2') b3) b4).alloc (Nat.le_trans b1.size (Nat.le_trans b2'.size (Nat.le_trans b3.size b4.size))) _⟩
  · have hg : (⟨#[44, 32]⟩ : ByteArray) ∈ gaps := by simp [gaps]
    obtain ⟨hS, hS2⟩ := hsp.out _ hg
    have hjl := hjj.out _ hg
    have hgz : (⟨#[44, 32]⟩ : ByteArray).size = 2 := rfl
    obtain ⟨J, hJ⟩ : ∃ J, joinS T ⟨#[44, 32]⟩ = J := ⟨_, rfl⟩
    obtain ⟨X, hX⟩ : ∃ X, (⟨#[44, 32]⟩ : ByteArray) ++ J ++ ⟨#[44, 32]⟩ = X := ⟨_, rfl⟩
    rw [hJ, hX] at hS hS2
    have HS := Lib.hid hS
    have hJz : J.size ≤ 1000 := by rw [← hX, ByteArray.size_append, ByteArray.size_append] at hS2; omega
    have hs1 : (⟨#[44, 32]⟩ : ByteArray).size + J.size ≤ 9223372036854775807 := by rw [hgz]; omega
    have hs2 : ((⟨#[44, 32]⟩ : ByteArray) ++ J).size + (⟨#[44, 32]⟩ : ByteArray).size ≤ 9223372036854775807 := by rw [ByteArray.size_append, hgz]; omega
    have HJ := Lib.hid hJ
    clear hS hg hgz hJ
    go_wp2_with fail
    refine (join_any u T ⟨#[44, 32]⟩ _ (T1.out.alloc _) (by omega) hjl).mono ?_
    rintro e w2 ⟨rfl, b2⟩
    rw [HJ.out]
    have b2' := ((Below.refl w1.heap.size w1).alloc (Nat.le_refl _) _).trans (b2.mono (by simp))
    clear b2
    go_wp2_with fail
    refine (split_any X _ (by omega)).mono ?_
    rintro e w3 ⟨hsa, b3⟩
    clear hX hs1 hs2
    unfold SplitAns at hsa
    rw [HS.out] at hsa
    obtain ⟨va, rfl, oa⟩ := hsa
    rw [hTm.out] at oa
    have VA := Lib.hid (SlR.of_owns oa)
    clear oa
    go_wp2_with fail
    refine (split_any ⟨#[120]⟩ _ (by decide)).mono ?_
    rintro e w4 ⟨hsb, b4⟩
    unfold SplitAns at hsb
    rw [split_x] at hsb
    obtain ⟨vb, rfl, ob⟩ := hsb
    have VB := Lib.hid (SlR.of_owns ob)
    clear ob
    go_wp2_with fail
    refine (eqStr_any va u T T _ (VA.out.below b4) (((T1.out.below b2').below b3).below b4) (by omega) (by omega)).mono ?_
    rintro e w' ⟨rfl, rfl⟩
    rw [show SameTexts T T = true from by unfold SameTexts; simp]
    go_wp2_with fail
    refine (eqStr_any vb _ [⟨#[120]⟩] [⟨#[120]⟩] _ (VB.out.alloc _) (SlR.lit (enc := es) w4 [.string ⟨#[120]⟩] _ [(⟨#[120]⟩ : ByteArray)] rfl) (by decide) (by decide)).mono ?_
    rintro e w' ⟨rfl, rfl⟩
    rw [show SameTexts [(⟨#[120]⟩ : ByteArray)] [⟨#[120]⟩] = true from by unfold SameTexts; simp]
    go_wp2_with fail
    go_ret
    exact ⟨rfl, (belT (belT (belT b1 b2') b3) b4).alloc (Nat.le_trans b1.size (Nat.le_trans b2'.size (Nat.le_trans b3.size b4.size))) _⟩
  · have hg : (⟨#[32, 44, 9]⟩ : ByteArray) ∈ gaps := by simp [gaps]
    obtain ⟨hS, hS2⟩ := hsp.out _ hg
    have hjl := hjj.out _ hg
    have hgz : (⟨#[32, 44, 9]⟩ : ByteArray).size = 3 := rfl
    obtain ⟨J, hJ⟩ : ∃ J, joinS T ⟨#[32, 44, 9]⟩ = J := ⟨_, rfl⟩
    obtain ⟨X, hX⟩ : ∃ X, (⟨#[32, 44, 9]⟩ : ByteArray) ++ J ++ ⟨#[32, 44, 9]⟩ = X := ⟨_, rfl⟩
    rw [hJ, hX] at hS hS2
    have HS := Lib.hid hS
    have hJz : J.size ≤ 1000 := by rw [← hX, ByteArray.size_append, ByteArray.size_append] at hS2; omega
    have hs1 : (⟨#[32, 44, 9]⟩ : ByteArray).size + J.size ≤ 9223372036854775807 := by rw [hgz]; omega
    have hs2 : ((⟨#[32, 44, 9]⟩ : ByteArray) ++ J).size + (⟨#[32, 44, 9]⟩ : ByteArray).size ≤ 9223372036854775807 := by rw [ByteArray.size_append, hgz]; omega
    have HJ := Lib.hid hJ
    clear hS hg hgz hJ
    go_wp2_with fail
    refine (join_any u T ⟨#[32, 44, 9]⟩ _ (T1.out.alloc _) (by omega) hjl).mono ?_
    rintro e w2 ⟨rfl, b2⟩
    rw [HJ.out]
    have b2' := ((Below.refl w1.heap.size w1).alloc (Nat.le_refl _) _).trans (b2.mono (by simp))
    clear b2
    go_wp2_with fail
    refine (split_any X _ (by omega)).mono ?_
    rintro e w3 ⟨hsa, b3⟩
    clear hX hs1 hs2
    unfold SplitAns at hsa
    rw [HS.out] at hsa
    obtain ⟨va, rfl, oa⟩ := hsa
    rw [hTm.out] at oa
    have VA := Lib.hid (SlR.of_owns oa)
    clear oa
    go_wp2_with fail
    refine (split_any ⟨#[120]⟩ _ (by decide)).mono ?_
    rintro e w4 ⟨hsb, b4⟩
    unfold SplitAns at hsb
    rw [split_x] at hsb
    obtain ⟨vb, rfl, ob⟩ := hsb
    have VB := Lib.hid (SlR.of_owns ob)
    clear ob
    go_wp2_with fail
    refine (eqStr_any va u T T _ (VA.out.below b4) (((T1.out.below b2').below b3).below b4) (by omega) (by omega)).mono ?_
    rintro e w' ⟨rfl, rfl⟩
    rw [show SameTexts T T = true from by unfold SameTexts; simp]
    go_wp2_with fail
    refine (eqStr_any vb _ [⟨#[120]⟩] [⟨#[120]⟩] _ (VB.out.alloc _) (SlR.lit (enc := es) w4 [.string ⟨#[120]⟩] _ [(⟨#[120]⟩ : ByteArray)] rfl) (by decide) (by decide)).mono ?_
    rintro e w' ⟨rfl, rfl⟩
    rw [show SameTexts [(⟨#[120]⟩ : ByteArray)] [⟨#[120]⟩] = true from by unfold SameTexts; simp]
    go_wp2_with fail
    go_ret
    exact ⟨rfl, (belT (belT (belT b1 b2') b3) b4).alloc (Nat.le_trans b1.size (Nat.le_trans b2'.size (Nat.le_trans b3.size b4.size))) _⟩
  · have hg : (⟨#[44, 44]⟩ : ByteArray) ∈ gaps := by simp [gaps]
    obtain ⟨hS, hS2⟩ := hsp.out _ hg
    have hjl := hjj.out _ hg
    have hgz : (⟨#[44, 44]⟩ : ByteArray).size = 2 := rfl
    obtain ⟨J, hJ⟩ : ∃ J, joinS T ⟨#[44, 44]⟩ = J := ⟨_, rfl⟩
    obtain ⟨X, hX⟩ : ∃ X, (⟨#[44, 44]⟩ : ByteArray) ++ J ++ ⟨#[44, 44]⟩ = X := ⟨_, rfl⟩
    rw [hJ, hX] at hS hS2
    have HS := Lib.hid hS
    have hJz : J.size ≤ 1000 := by rw [← hX, ByteArray.size_append, ByteArray.size_append] at hS2; omega
    have hs1 : (⟨#[44, 44]⟩ : ByteArray).size + J.size ≤ 9223372036854775807 := by rw [hgz]; omega
    have hs2 : ((⟨#[44, 44]⟩ : ByteArray) ++ J).size + (⟨#[44, 44]⟩ : ByteArray).size ≤ 9223372036854775807 := by rw [ByteArray.size_append, hgz]; omega
    have HJ := Lib.hid hJ
    clear hS hg hgz hJ
    go_wp2_with fail
    refine (join_any u T ⟨#[44, 44]⟩ _ (T1.out.alloc _) (by omega) hjl).mono ?_
    rintro e w2 ⟨rfl, b2⟩
    rw [HJ.out]
    have b2' := ((Below.refl w1.heap.size w1).alloc (Nat.le_refl _) _).trans (b2.mono (by simp))
    clear b2
    go_wp2_with fail
    refine (split_any X _ (by omega)).mono ?_
    rintro e w3 ⟨hsa, b3⟩
    clear hX hs1 hs2
    unfold SplitAns at hsa
    rw [HS.out] at hsa
    obtain ⟨va, rfl, oa⟩ := hsa
    rw [hTm.out] at oa
    have VA := Lib.hid (SlR.of_owns oa)
    clear oa
    go_wp2_with fail
    refine (split_any ⟨#[120]⟩ _ (by decide)).mono ?_
    rintro e w4 ⟨hsb, b4⟩
    unfold SplitAns at hsb
    rw [split_x] at hsb
    obtain ⟨vb, rfl, ob⟩ := hsb
    have VB := Lib.hid (SlR.of_owns ob)
    clear ob
    go_wp2_with fail
    refine (eqStr_any va u T T _ (VA.out.below b4) (((T1.out.below b2').below b3).below b4) (by omega) (by omega)).mono ?_
    rintro e w' ⟨rfl, rfl⟩
    rw [show SameTexts T T = true from by unfold SameTexts; simp]
    go_wp2_with fail
    refine (eqStr_any vb _ [⟨#[120]⟩] [⟨#[120]⟩] _ (VB.out.alloc _) (SlR.lit (enc := es) w4 [.string ⟨#[120]⟩] _ [(⟨#[120]⟩ : ByteArray)] rfl) (by decide) (by decide)).mono ?_
    rintro e w' ⟨rfl, rfl⟩
    rw [show SameTexts [(⟨#[120]⟩ : ByteArray)] [⟨#[120]⟩] = true from by unfold SameTexts; simp]
    go_wp2_with fail
    go_ret
    exact ⟨rfl, (belT (belT (belT b1 b2') b3) b4).alloc (Nat.le_trans b1.size (Nat.le_trans b2'.size (Nat.le_trans b3.size b4.size))) _⟩
  · have hg : (⟨#[32, 44, 32, 44, 32]⟩ : ByteArray) ∈ gaps := by simp [gaps]
    obtain ⟨hS, hS2⟩ := hsp.out _ hg
    have hjl := hjj.out _ hg
    have hgz : (⟨#[32, 44, 32, 44, 32]⟩ : ByteArray).size = 5 := rfl
    obtain ⟨J, hJ⟩ : ∃ J, joinS T ⟨#[32, 44, 32, 44, 32]⟩ = J := ⟨_, rfl⟩
    obtain ⟨X, hX⟩ : ∃ X, (⟨#[32, 44, 32, 44, 32]⟩ : ByteArray) ++ J ++ ⟨#[32, 44, 32, 44, 32]⟩ = X := ⟨_, rfl⟩
    rw [hJ, hX] at hS hS2
    have HS := Lib.hid hS
    have hJz : J.size ≤ 1000 := by rw [← hX, ByteArray.size_append, ByteArray.size_append] at hS2; omega
    have hs1 : (⟨#[32, 44, 32, 44, 32]⟩ : ByteArray).size + J.size ≤ 9223372036854775807 := by rw [hgz]; omega
    have hs2 : ((⟨#[32, 44, 32, 44, 32]⟩ : ByteArray) ++ J).size + (⟨#[32, 44, 32, 44, 32]⟩ : ByteArray).size ≤ 9223372036854775807 := by rw [ByteArray.size_append, hgz]; omega
    have HJ := Lib.hid hJ
    clear hS hg hgz hJ
    go_wp2_with fail
    refine (join_any u T ⟨#[32, 44, 32, 44, 32]⟩ _ (T1.out.alloc _) (by omega) hjl).mono ?_
    rintro e w2 ⟨rfl, b2⟩
    rw [HJ.out]
    have b2' := ((Below.refl w1.heap.size w1).alloc (Nat.le_refl _) _).trans (b2.mono (by simp))
    clear b2
    go_wp2_with fail
    refine (split_any X _ (by omega)).mono ?_
    rintro e w3 ⟨hsa, b3⟩
    clear hX hs1 hs2
    unfold SplitAns at hsa
    rw [HS.out] at hsa
    obtain ⟨va, rfl, oa⟩ := hsa
    rw [hTm.out] at oa
    have VA := Lib.hid (SlR.of_owns oa)
    clear oa
    go_wp2_with fail
    refine (split_any ⟨#[120]⟩ _ (by decide)).mono ?_
    rintro e w4 ⟨hsb, b4⟩
    unfold SplitAns at hsb
    rw [split_x] at hsb
    obtain ⟨vb, rfl, ob⟩ := hsb
    have VB := Lib.hid (SlR.of_owns ob)
    clear ob
    go_wp2_with fail
    refine (eqStr_any va u T T _ (VA.out.below b4) (((T1.out.below b2').below b3).below b4) (by omega) (by omega)).mono ?_
    rintro e w' ⟨rfl, rfl⟩
    rw [show SameTexts T T = true from by unfold SameTexts; simp]
    go_wp2_with fail
    refine (eqStr_any vb _ [⟨#[120]⟩] [⟨#[120]⟩] _ (VB.out.alloc _) (SlR.lit (enc := es) w4 [.string ⟨#[120]⟩] _ [(⟨#[120]⟩ : ByteArray)] rfl) (by decide) (by decide)).mono ?_
    rintro e w' ⟨rfl, rfl⟩
    rw [show SameTexts [(⟨#[120]⟩ : ByteArray)] [⟨#[120]⟩] = true from by unfold SameTexts; simp]
    go_wp2_with fail
    go_ret
    exact ⟨rfl, (belT (belT (belT b1 b2') b3) b4).alloc (Nat.le_trans b1.size (Nat.le_trans b2'.size (Nat.le_trans b3.size b4.size))) _⟩
theorem tokenJoins_walk (v : Value) (l : List ByteArray) (n : Int) (w : World) (h : SlR w es v l) (hl : l.length * 16 ≤ 140737488351232) (hz : ∀ s ∈ l, s.size ≤ 140737488351232) (hn : (Lit.int .i64 n).wf = true) :
    Calls Try.prog 9 #[v, .int .i64 n] w fun e w' => e = .returned (.bool true) ∧ Below w.heap.size w w' :=
  tokenJoins_core v l n w h (by omega) hz (wide_of hn)
end Go.Proofs.Ytdoeipjcohkbeaa
