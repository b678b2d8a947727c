/- SpanBack: the law's walk. -/
import Derived.Test.YthhhlaoiampinaaDoorSpwB
import Derived.Test.YthhhlaoiampinaaDoorSpwC
import Derived.Test.YthhhlaoiampinaaDoorEqWant
namespace Go.Proofs.YthhhlaoiampinaaDoor
set_option maxRecDepth 20000
open Go.RowKit
/-- The library's variable MaxLen holds some number. -/
def HasMaxS (w : World) : Prop := (∃ m, w.cell? ⟨5, 0, none⟩ = some (.int .i64 m)) ∧ 5 < w.heap.size
theorem HasMaxS.below {w w' : World} (h : HasMaxS w) (hb : Below w.heap.size w w') : HasMaxS w' :=
  ⟨h.1.elim fun m hm => ⟨m, (hb.cell h.2).trans hm⟩, Nat.lt_of_lt_of_le h.2 hb.size⟩
namespace Spw
open Spc
theorem printW_bad (v : Value) (l : List (Int × Int)) (w : World) (h : SlR w e_ii v l) (hl : l.length ≤ 140737488351232) (hb : ¬ (Spn.checkI l = 0 ∧ l.length ≤ 20)) :
    Calls Tryd.prog 9 #[v] w fun e w' => (∃ k : Int, (k == 0) = false ∧ e = .returned (.tuple #[.string ByteArray.empty, .int .i64 k])) ∧ Below w.heap.size w w' := by
  have HCk := Lib.hid (checkWant_any v l w h hl)
  have hc : Spn.checkI l = 1 ∨ (Spn.checkI l = 0 ∧ 20 < l.length) := by
    unfold Spn.checkI at *
    split at hb
    · rename_i h1; rw [if_pos h1]; exact .inl rfl
    · rename_i h1; rw [if_neg h1]; exact .inr ⟨rfl, by omega⟩
  clear hb
  obtain ⟨A, c, rfl, -, -⟩ := h
  rcases hc with hc | ⟨hc, h20⟩
  · rw [hc] at HCk
    clear hc
    go_enter Tryd.func9, Tryd.ntmps9
    go_wp2_with fail
    refine HCk.out.mono ?_
    rintro e w1 ⟨rfl, b1⟩
    go_wp2_with fail
    go_ret2
    exact ⟨⟨1, rfl, rfl⟩, b1⟩
  · rw [hc] at HCk
    have d20 : decide (20 < (l.length : Int)) = true := by rw [decide_eq_true_iff]; omega
    clear hc
    go_enter Tryd.func9, Tryd.ntmps9
    go_wp2_with fail
    refine HCk.out.mono ?_
    rintro e w1 ⟨rfl, b1⟩
    go_wp2_with fail
    go_ret2
    exact ⟨⟨2, rfl, rfl⟩, b1⟩
theorem pre_no (w : World) :
    Calls Tryd.prog 20 #[.string ByteArray.empty, .string ⟨#[98, 121, 116, 101, 115, 61]⟩] w fun e w' => e = .returned (.tuple #[.string ByteArray.empty, .bool false]) ∧ w' = w := by
  refine (Tryd.strings_CutPrefix _ ⟨#[98, 121, 116, 101, 115, 61]⟩ w).mono fun e w' ⟨he, hw⟩ => ⟨?_, hw⟩
  rw [he]; rfl
theorem parseW_empty (w : World) :
    Calls Tryd.prog 10 #[.string ByteArray.empty] w fun e w' => (∃ v, e = .returned (.tuple #[v, .int .i64 3])) ∧ Below w.heap.size w w' := by
  have HPr := Lib.hid pre_no
  go_enter Tryd.func10, Tryd.ntmps10
  go_wp2_with fail
  refine (HPr.out _).mono ?_
  rintro e w' ⟨rfl, rfl⟩
  go_wp2_with fail
  have k2 := (Blk.new w 33 #[.slice none 0 0]).alloc (.cells #[.int .i64 3] 23)
  have k3 := Blk.new (w.alloc (.cells #[.slice none 0 0] 33)) 23 #[.int .i64 3]
  rw [World.size_alloc] at k3
  exact bodyPost_ret (results_cc rfl _ _ _ ⟨w.heap.size, 0, none⟩ ⟨w.heap.size + 1, 0, none⟩ (.slice none 0 0) (.int .i64 3) rfl rfl (load_wants (k2.cell 0)) (load_errno (k3.cell 0))) rfl ⟨⟨_, rfl⟩, ((Below.refl _ w).alloc (Nat.le_refl _) _).alloc (by simp) _⟩
theorem replace_texts {l : List (Int × Int)} (hne : l ≠ []) (hg : ∀ d ∈ l, Spn.wantB d = true) :
    Lib.replaceAll (sl ((⟨#[98, 121, 116, 101, 115, 61]⟩ : ByteArray) ++ joinS (l.map tx) ⟨#[44]⟩)) [44] [32, 44, 9, 32] = [98, 121, 116, 101, 115, 61] ++ Lib.join (l.map (fun d => wL d.1 d.2)) [32, 44, 9, 32] := by
  have hm : (l.map tx).map sl = l.map (fun d => wL d.1 d.2) := by
    rw [List.map_map]; exact List.map_congr_left (fun d _ => sl_mkS _)
  rw [replaceAll_sg _ _ rfl, sl_append]
  unfold joinS joinL
  rw [sl_mkS, hm]
  show Lib.join (sg 44 [] ([98, 121, 116, 101, 115, 61] ++ Lib.join (l.map (fun d => wL d.1 d.2)) [44])) _ = _
  cases l with
  | nil => exact absurd rfl hne
  | cons d l =>
    rw [List.map_cons, sg_exact _ (by decide) _ _ (fun m hm => by
      rw [← List.map_cons (f := fun d : Int × Int => wL d.1 d.2), List.mem_map] at hm
      obtain ⟨x, hx, rfl⟩ := hm
      exact (wL_solid (hg x hx)).2.2)]
    rw [Lib.join_cons, Lib.join_cons, List.append_assoc]
theorem texts_back {l : List (Int × Int)} (hne : l ≠ []) (hg : ∀ d ∈ l, Spn.wantB d = true) (b p : List UInt8) (hb : b.all Tok.blankB = true) (hp : p.all Tok.blankB = true) :
    (sg 44 [] (Lib.join (l.map (fun d => wL d.1 d.2)) (b ++ 44 :: p))).map Tok.trimL = l.map (fun d => wL d.1 d.2) := by
  cases l with
  | nil => exact absurd rfl hne
  | cons d l =>
    rw [List.map_cons]
    have := sg_padded b p hb hp (l.map (fun d => wL d.1 d.2)) [] (wL d.1 d.2) rfl (fun m hm => by
      rw [← List.map_cons (f := fun d : Int × Int => wL d.1 d.2), List.mem_map] at hm
      obtain ⟨x, hx, rfl⟩ := hm
      exact wL_solid (hg x hx))
    rwa [List.nil_append] at this
theorem len_join (l : List (Int × Int)) (hg : ∀ d ∈ l, Spn.wantB d = true) (hl : l.length ≤ 20) (sep : List UInt8) (hs : sep.length ≤ 4) : (Lib.join (l.map (fun d => wL d.1 d.2)) sep).length ≤ 400 := by
  refine Nat.le_trans (join_len _ _) ?_
  have key : ∀ (m : List (Int × Int)), (∀ d ∈ m, Spn.wantB d = true) → ((m.map (fun d => wL d.1 d.2)).map (fun x => x.length + sep.length)).sum ≤ 15 * m.length := by
    intro m
    induction m with
    | nil => intro _; simp
    | cons d m ih =>
      intro h
      have h1 := tx_size (h d (by simp))
      unfold tx at h1
      rw [mkS_size] at h1
      have h2 := ih (fun x hx => h x (by simp [hx]))
      rw [List.map_cons, List.map_cons, List.sum_cons, List.length_cons]
      omega
  have := key l hg
  omega
set_option maxHeartbeats 2000000 in
theorem spanBack_walk (v : Value) (l : List (Int × Int)) (w : World) (h : SlR w e_ii v l) (hl : l.length ≤ 140737488351232) (hm : HasMaxS w) (he : Bd.HasErr w) :
    Calls Tryd.prog 4 #[v] w fun e w' => e = .returned (.bool true) ∧ Below w.heap.size w w' := by
  have HPe := Lib.hid parseW_empty
  by_cases hok : Spn.checkI l = 0 ∧ l.length ≤ 20
  · obtain ⟨hc, h20⟩ := hok
    have hg : ∀ d ∈ l, Spn.wantB d = true := by
      intro d hd
      unfold Spn.checkI at hc
      split at hc
      · cases hc
      · rename_i h1
        simp only [not_or, Bool.not_eq_true, List.any_eq_false] at h1
        have := h1.2 d hd
        simpa using this
    have hne : l ≠ [] := by
      unfold Spn.checkI at hc
      split at hc
      · cases hc
      · rename_i h1; exact fun e => h1 (.inl e)
    have hPr := printW_ok v l w h h20 hc he
    have hm0 : (l.map tx).map sl = l.map (fun d => wL d.1 d.2) := by
      rw [List.map_map]; exact List.map_congr_left (fun d _ => sl_mkS _)
    have hjs : sl (joinS (l.map tx) ⟨#[44]⟩) = Lib.join (l.map (fun d => wL d.1 d.2)) [44] := by
      unfold joinS joinL; rw [sl_mkS, hm0]; rfl
    have hj1 := len_join l hg h20 [44] (by decide)
    have hj2 := len_join l hg h20 [32, 44, 9, 32] (by decide)
    have hpa := fun w' he' => parseW_ok (joinS (l.map tx) ⟨#[44]⟩) l w' (by rw [← sl_len, hjs]; omega) h20 hg (by rw [hjs]; exact texts_back hne hg [] [] rfl rfl) he'
    have hpb := fun w' he' => parseW_ok (mkS (Lib.join (l.map (fun d => wL d.1 d.2)) [32, 44, 9, 32])) l w' (by rw [mkS_size]; omega) h20 hg (by rw [sl_mkS]; exact texts_back hne hg [32] [9, 32] rfl rfl) he'
    have hs1 : ((⟨#[98, 121, 116, 101, 115, 61]⟩ : ByteArray) ++ joinS (l.map tx) ⟨#[44]⟩).size ≤ 1000 := by
      rw [ByteArray.size_append, ← sl_len, ← sl_len, hjs, show (sl ⟨#[98, 121, 116, 101, 115, 61]⟩).length = 6 from rfl]; omega
    have hrt : (⟨(Lib.replaceAll ((⟨#[98, 121, 116, 101, 115, 61]⟩ : ByteArray) ++ joinS (l.map tx) ⟨#[44]⟩).data.toList (⟨#[44]⟩ : ByteArray).data.toList (⟨#[32, 44, 9, 32]⟩ : ByteArray).data.toList).toArray⟩ : ByteArray) = (⟨#[98, 121, 116, 101, 115, 61]⟩ : ByteArray) ++ mkS (Lib.join (l.map (fun d => wL d.1 d.2)) [32, 44, 9, 32]) := by
      refine sl_inj ?_
      rw [sl_append, sl_mkS]
      exact replace_texts hne hg
    have hrp : ∀ w', HasMaxS w' → Calls Tryd.prog 11 #[.string ((⟨#[98, 121, 116, 101, 115, 61]⟩ : ByteArray) ++ joinS (l.map tx) ⟨#[44]⟩), .string ⟨#[44]⟩, .string ⟨#[32, 44, 9, 32]⟩] w' fun e w'' => e = .returned (.string ((⟨#[98, 121, 116, 101, 115, 61]⟩ : ByteArray) ++ mkS (Lib.join (l.map (fun d => wL d.1 d.2)) [32, 44, 9, 32]))) ∧ Below w'.heap.size w' w'' := by
      rintro w' ⟨⟨m, hm⟩, -⟩
      have hcn : Lib.countB ((⟨#[98, 121, 116, 101, 115, 61]⟩ : ByteArray) ++ joinS (l.map tx) ⟨#[44]⟩) ⟨#[44]⟩ ≤ ((⟨#[98, 121, 116, 101, 115, 61]⟩ : ByteArray) ++ joinS (l.map tx) ⟨#[44]⟩).size + 1 := by
        have := Lib.count_le (sl ((⟨#[98, 121, 116, 101, 115, 61]⟩ : ByteArray) ++ joinS (l.map tx) ⟨#[44]⟩)) [44]
        rw [sl_len] at this
        exact this
      have hz4 : (⟨#[32, 44, 9, 32]⟩ : ByteArray).size = 4 := rfl
      have := Tryd.strings_ReplaceAll ((⟨#[98, 121, 116, 101, 115, 61]⟩ : ByteArray) ++ joinS (l.map tx) ⟨#[44]⟩) ⟨#[44]⟩ ⟨#[32, 44, 9, 32]⟩ m w' (by omega) hm (by decide) (by rw [hz4]; omega)
      rw [hrt] at this
      exact this
    have HPr := Lib.hid hPr
    have HPa := Lib.hid hpa
    have HPb := Lib.hid hpb
    have HRp := Lib.hid hrp
    have HE := Lib.hid (fun w' (hb : Below w.heap.size w w') => he.below hb)
    have HM := Lib.hid (fun w' (hb : Below w.heap.size w w') => hm.below hb)
    have HL := Lib.hid (fun w' (hb : Below w.heap.size w w') => h.below hb)
    have HEq := Lib.hid (fun u w' (h1 : SlR w' e_ii v l) (h2 : SlR w' e_ii u l) => eqWant_any v u l l w' h1 h2 hl hl)
    simp only [decide_true] at HEq
    clear hPr hpa hpb hrp hrt hs1 hj1 hj2 hjs hm0 hne hg hc h hm he hl
    generalize (⟨#[98, 121, 116, 101, 115, 61]⟩ : ByteArray) ++ mkS (Lib.join (l.map (fun d => wL d.1 d.2)) [32, 44, 9, 32]) = T2 at *
    generalize (⟨#[98, 121, 116, 101, 115, 61]⟩ : ByteArray) ++ joinS (l.map tx) ⟨#[44]⟩ = T1 at *
    go_enter Tryd.func4, Tryd.ntmps4
    go_wp2_with fail
    refine HPr.out.mono ?_
    rintro e w1 ⟨rfl, B1⟩
    go_wp2_with fail
    refine (HPe.out _).mono ?_
    rintro e w2 ⟨⟨u2, rfl⟩, b2⟩
    have B2 := belT B1 b2
    go_wp2_with fail
    refine (HPa.out _ (HE.out _ B2)).mono ?_
    rintro e w3 ⟨⟨u3, rfl, hs3⟩, b3⟩
    have B3 := belT B2 b3
    have HS3 := Lib.hid hs3
    clear hs3
    go_wp2_with fail
    refine (HRp.out _ (HM.out _ B3)).mono ?_
    rintro e w4 ⟨rfl, b4⟩
    have B4 := belT B3 b4
    go_wp2_with fail
    refine (HPb.out _ (HE.out _ B4)).mono ?_
    rintro e w5 ⟨⟨u5, rfl, hs5⟩, b5⟩
    have B5 := belT B4 b5
    have HQ1 := Lib.hid (fun w' (hb : Below w5.heap.size w5 w') => HEq.out u3 w' (HL.out _ (belT B5 hb)) (((HS3.out.below b4).below b5).below hb))
    have HQ2 := Lib.hid (fun w' (hb : Below w5.heap.size w5 w') => HEq.out u5 w' (HL.out _ (belT B5 hb)) (hs5.below hb))
    clear hs5 HS3 HPr HPa HPb HRp HE HM HL HEq
    have b0 := Below.refl w5.heap.size w5
    go_wp2_with fail
    refine (HQ1.out _ b0).mono ?_
    rintro e w6 ⟨rfl, b6⟩
    go_wp2_with fail
    refine (HQ2.out _ b6).mono ?_
    rintro e w7 ⟨rfl, b7⟩
    go_wp2_with fail
    go_ret
    exact ⟨rfl, belT B5 (belT b6 b7)⟩
  · have HPr := Lib.hid (printW_bad v l w h hl hok)
    clear hok h hl hm he
    go_enter Tryd.func4, Tryd.ntmps4
    go_wp2_with fail
    refine HPr.out.mono ?_
    rintro e w1 ⟨⟨k, hk, rfl⟩, B1⟩
    go_wp2_with fail
    refine (HPe.out _).mono ?_
    rintro e w2 ⟨⟨u2, rfl⟩, b2⟩
    have B2 := belT B1 b2
    go_wp2_with fail
    go_ret
    exact ⟨rfl, B2⟩
end Spw
end Go.Proofs.YthhhlaoiampinaaDoor
