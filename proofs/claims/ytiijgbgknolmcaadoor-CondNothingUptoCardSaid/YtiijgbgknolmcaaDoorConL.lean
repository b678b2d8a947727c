/- The five laws of cond: what they share, and their walks. -/
import Derived.Test.YtiijgbgknolmcaaDoorConE
namespace Go.Proofs.YtiijgbgknolmcaaDoor
set_option maxRecDepth 20000
open Go.RowKit
namespace Cn
def plainN : List ByteArray := [nIM, nINM, nIMS, nIUS]
theorem plainN_lt (k : Nat) (hk : k < plainN.length) : plainN[k].size ≤ 140737488351232 := by
  have : ∀ n ∈ plainN, n.size ≤ 140737488351232 := by decide
  exact this _ (List.getElem_mem hk)
def dropsN (k : Nat) (l : List Fld) : List Fld := (plainN.take k).foldl dropF l
theorem dropsN_succ (l : List Fld) (k : Nat) (hk : k < plainN.length) : dropsN (k + 1) l = dropF (dropsN k l) plainN[k] := by
  unfold dropsN
  rw [List.take_add_one, List.getElem?_eq_getElem hk, List.foldl_append]
  rfl
theorem dropsN_4 (l : List Fld) : dropsN 4 l = plainly l := rfl
theorem plainN_cells : ([.string ⟨#[73, 102, 45, 77, 97, 116, 99, 104]⟩, .string ⟨#[73, 102, 45, 78, 111, 110, 101, 45, 77, 97, 116, 99, 104]⟩, .string ⟨#[73, 102, 45, 77, 111, 100, 105, 102, 105, 101, 100, 45, 83, 105, 110, 99, 101]⟩, .string ⟨#[73, 102, 45, 85, 110, 109, 111, 100, 105, 102, 105, 101, 100, 45, 83, 105, 110, 99, 101]⟩] : List Value) = plainN.flatMap es := rfl
set_option maxHeartbeats 1600000 in
theorem plainly_any (u : Value) (l : List Fld) (w : World) (h : FOk w u l) :
    Calls Tryd.prog 14 #[u] w fun e w' => (∃ v, e = .returned v ∧ FOk w' v (plainly l)) ∧ Below w.heap.size w w' := by
  have b0 : Below w.heap.size w (w.alloc (.cells #[.string ⟨#[73, 102, 45, 77, 97, 116, 99, 104]⟩, .string ⟨#[73, 102, 45, 78, 111, 110, 101, 45, 77, 97, 116, 99, 104]⟩, .string ⟨#[73, 102, 45, 77, 111, 100, 105, 102, 105, 101, 100, 45, 83, 105, 110, 99, 101]⟩, .string ⟨#[73, 102, 45, 85, 110, 109, 111, 100, 105, 102, 105, 101, 100, 45, 83, 105, 110, 99, 101]⟩] 9)) := (Below.refl _ _).alloc (Nat.le_refl _) _
  have hcell : ∀ k (hk : k < plainN.length), (w.alloc (.cells #[.string ⟨#[73, 102, 45, 77, 97, 116, 99, 104]⟩, .string ⟨#[73, 102, 45, 78, 111, 110, 101, 45, 77, 97, 116, 99, 104]⟩, .string ⟨#[73, 102, 45, 77, 111, 100, 105, 102, 105, 101, 100, 45, 83, 105, 110, 99, 101]⟩, .string ⟨#[73, 102, 45, 85, 110, 109, 111, 100, 105, 102, 105, 101, 100, 45, 83, 105, 110, 99, 101]⟩] 9)).cell? ⟨w.heap.size, k, none⟩ = some (.string plainN[k]) := by
    intro k hk
    have h := new_cells w (plainN.flatMap es) 9 k (.string plainN[k]) (by rw [es_map]; simp [hk])
    have e : ((⟨w.heap.size, 0, none⟩ : Addr).add k) = ⟨w.heap.size, k, none⟩ := by unfold Addr.add; split <;> simp_all
    rw [e, ← plainN_cells] at h
    exact h
  have hlen : w.heap.size < (w.alloc (.cells #[.string ⟨#[73, 102, 45, 77, 97, 116, 99, 104]⟩, .string ⟨#[73, 102, 45, 78, 111, 110, 101, 45, 77, 97, 116, 99, 104]⟩, .string ⟨#[73, 102, 45, 77, 111, 100, 105, 102, 105, 101, 100, 45, 83, 105, 110, 99, 101]⟩, .string ⟨#[73, 102, 45, 85, 110, 109, 111, 100, 105, 102, 105, 101, 100, 45, 83, 105, 110, 99, 101]⟩] 9)).heap.size := by simp
  have HF := Lib.hid (h.below b0)
  clear h
  go_enter Tryd.func14, Tryd.ntmps14
  go_wp2_with fail
  generalize w.alloc (.cells #[.string ⟨#[73, 102, 45, 77, 97, 116, 99, 104]⟩, .string ⟨#[73, 102, 45, 78, 111, 110, 101, 45, 77, 97, 116, 99, 104]⟩, .string ⟨#[73, 102, 45, 77, 111, 100, 105, 102, 105, 101, 100, 45, 83, 105, 110, 99, 101]⟩, .string ⟨#[73, 102, 45, 85, 110, 109, 111, 100, 105, 102, 105, 101, 100, 45, 83, 105, 110, 99, 101]⟩] 9) = w0 at *
  have HX := Lib.hid (fun k hk w' (hb : Below w0.heap.size w0 w') => (hb.cell (p := ⟨w.heap.size, k, none⟩) hlen).trans (hcell k hk))
  clear hcell
  go_loopw [0, 7] (fun tv i wr => ∃ k : Nat, k ≤ 4 ∧ i = .int .i64 k ∧ FOk wr tv (dropsN k l) ∧ Below w0.heap.size w0 wr) (fun _ i _ => 4 - (intOf i).toNat)
  case atStart => exact ⟨0, by omega, rfl, HF.out, Below.refl _ _⟩
  case round =>
    obtain ⟨k, hk, rfl, hf, hbel⟩ := hrel
    have HFk := Lib.hid hf
    clear hf
    by_cases hlt : k < 4
    · have c0 := HX.out k hlt wr hbel
      have hs := plainN_lt k hlt
      have HD := Lib.hid (dropsN_succ l k hlt)
      generalize plainN[k]'hlt = n at *
      go_wp2_with fail
      refine (drop_any _ (dropsN k l) n _ HFk.out.sl HFk.out.len HFk.out.lims hs).mono ?_
      rintro e w1 ⟨⟨v, rfl, o1⟩, b1⟩
      have HF1 : Hid (FOk w1 v (dropsN (k + 1) l)) := by
        show FOk _ _ _
        rw [HD.out]
        exact ⟨SlR.of_owns o1, Nat.le_trans (Nat.mul_le_mul_right _ (dropF_len _ _)) HFk.out.len, dropF_lims _ HFk.out.lims⟩
      clear o1
      go_wp2_with fail
      go_roundw
      case rel => exact ⟨k + 1, by omega, by go_num, HF1.out, hbel.trans (b1.mono hbel.size)⟩
      case measure => simp [intOf]; omega
    · obtain rfl : k = 4 := by omega
      go_wp2_with fail
      go_ret
      exact ⟨⟨_, rfl, HFk.out⟩, b0.trans (hbel.mono b0.size)⟩
set_option maxHeartbeats 1600000 in
theorem with_any (u : Value) (l : List Fld) (n v : ByteArray) (w : World) (h : FOk w u l) (hl : (l.length + 1) * 32 ≤ 140737488355328) (hn : n.size ≤ 140737488351232) :
    Calls Tryd.prog 15 #[u, .string n, .string v] w fun e w' => (∃ x, e = .returned x ∧ FOk w' x (l ++ [(n, v)])) ∧ Below w.heap.size w w' := by
  have HF := Lib.hid h
  have HC := Lib.hid (copyFld_any u l w h.sl h.len)
  clear h
  go_enter Tryd.func15, Tryd.ntmps15
  go_wp2_with fail
  refine HC.out.mono ?_
  rintro e w1 ⟨⟨y, rfl, o1⟩, b1⟩
  have O1 := Lib.hid o1
  clear o1
  have HN := Lib.hid (SlR.lit (enc := e_ss) w1 [.string n, .string v] 25 [(n, v)] rfl)
  have b2 := b1.alloc b1.size (.cells #[.string n, .string v] 25)
  go_wp2_with (at_builtin; go_must (refine wpList_append_slr rfl (.tmp 8) (.tmp 12) _ rfl w.heap.size 25 (.agg #[.string ByteArray.empty, .string ByteArray.empty]) 2 32 e_ss Tryd.underlying22 fldInfo rfl (by decide) (fun _ => rfl) _ l rfl (O1.out.alloc _) _ [(n, v)] rfl HN.out (ss_one _) (by simp only [maxLen, List.length_cons, List.length_nil]; omega) (by simp only [List.length_cons, List.length_nil]; omega) b2.size ?_); intro v4 w4 o4 g4)
  have b4 := b2.grown g4 b2.size (fun k hk => (O1.out.lt k hk).1)
  have HF4 : Hid (FOk w4 v4 (l ++ [(n, v)])) := ⟨SlR.of_owns o4, by simpa using hl, fun f hf => by
    rcases List.mem_append.1 hf with hf | hf
    · exact HF.out.lims f hf
    · rw [List.mem_singleton.1 hf]; exact hn⟩
  clear o4 g4
  go_wp2_with fail
  go_ret
  exact ⟨⟨_, rfl, HF4.out⟩, b4⟩
/-- The fields of the four names. -/
structure Sel (l : List Fld) (a b c d : List ByteArray) : Prop where
  im : selF l nIM = a
  inm : selF l nINM = b
  ims : selF l nIMS = c
  ius : selF l nIUS = d
theorem Sel.plain (l : List Fld) : Sel (plainly l) [] [] [] [] := by
  obtain ⟨a, b, c, d⟩ := plainly_no l
  exact ⟨a, b, c, d⟩
theorem Sel.withIM {l : List Fld} {b c d : List ByteArray} (h : Sel l [] b c d) (v : ByteArray) : Sel (l ++ [(nIM, v)]) [v] b c d := by
  obtain ⟨e1, e2, e3, e4, e5, e6⟩ := ne1
  exact ⟨with_self v h.im, (with_other l v e1.symm).trans h.inm, (with_other l v e2.symm).trans h.ims, (with_other l v e3.symm).trans h.ius⟩
theorem Sel.withINM {l : List Fld} {a c d : List ByteArray} (h : Sel l a [] c d) (v : ByteArray) : Sel (l ++ [(nINM, v)]) a [v] c d := by
  obtain ⟨e1, e2, e3, e4, e5, e6⟩ := ne1
  exact ⟨(with_other l v e1).trans h.im, with_self v h.inm, (with_other l v e4.symm).trans h.ims, (with_other l v e5.symm).trans h.ius⟩
theorem Sel.withIMS {l : List Fld} {a b d : List ByteArray} (h : Sel l a b [] d) (v : ByteArray) : Sel (l ++ [(nIMS, v)]) a b [v] d := by
  obtain ⟨e1, e2, e3, e4, e5, e6⟩ := ne1
  exact ⟨(with_other l v e2).trans h.im, (with_other l v e4).trans h.inm, with_self v h.ims, (with_other l v e6.symm).trans h.ius⟩
theorem Sel.withIUS {l : List Fld} {a b c : List ByteArray} (h : Sel l a b c []) (v : ByteArray) : Sel (l ++ [(nIUS, v)]) a b c [v] := by
  obtain ⟨e1, e2, e3, e4, e5, e6⟩ := ne1
  exact ⟨(with_other l v e3).trans h.im, (with_other l v e5).trans h.inm, (with_other l v e6).trans h.ims, with_self v h.ius⟩
def Small (x : List ByteArray) : Prop := x = [] ∨ ∃ v, x = [v] ∧ v.size ≤ 140737488351232
theorem Small.nil : Small [] := .inl rfl
theorem Small.one {v : ByteArray} (h : v.size ≤ 140737488351232) : Small [v] := .inr ⟨v, rfl, h⟩
theorem Small.join {x : List ByteArray} (h : Small x) : (joinL x sep2).length ≤ 140737488351232 := by
  rcases h with rfl | ⟨v, rfl, hv⟩
  · simp [joinL, Lib.join]
  · rw [joinL_one]; exact hv
theorem Sel.lim {l : List Fld} {a b c d : List ByteArray} (h : Sel l a b c d) (ha : Small a) (hb : Small b) (hc : Small c) (hd : Small d) : ∀ n ∈ [nIM, nINM, nIUS, nIMS], (joinL (selF l n) sep2).length ≤ 140737488351232 := by
  intro n hn
  simp only [List.mem_cons, List.not_mem_nil, or_false] at hn
  rcases hn with rfl | rfl | rfl | rfl
  · rw [h.im]; exact ha.join
  · rw [h.inm]; exact hb.join
  · rw [h.ius]; exact hd.join
  · rw [h.ims]; exact hc.join
/-- Eval("PUT", {If-Match: *}, false, "", 0). -/
theorem put_any (w : World) (hp : HasP10 w) (hm : HasMaxL w) (u : Value) (hu : SlR w e_ss u [(nIM, ⟨#[42]⟩)]) :
    Calls Tryd.prog 13 #[.string ⟨#[80, 85, 84]⟩, u, .bool false, .string ⟨#[]⟩, .int .i64 0] w fun e w' => e = .returned (.int .i64 412) ∧ Below w.heap.size w w' := by
  have hs : Sel [(nIM, (⟨#[42]⟩ : ByteArray))] [⟨#[42]⟩] [] [] [] := by
    have := (Sel.withIM (l := []) ⟨rfl, rfl, rfl, rfl⟩ ⟨#[42]⟩ : Sel _ _ _ _ _)
    exact this
  refine (eval_any ⟨#[80, 85, 84]⟩ u [(nIM, ⟨#[42]⟩)] false ⟨#[]⟩ 0 w ⟨hu, by decide, fun f hf => by rw [List.mem_singleton.1 hf]; decide⟩ (by decide) (hs.lim (Small.one (by decide)) Small.nil Small.nil Small.nil) hp hm).mono ?_
  rintro e w' ⟨⟨r, rfl, ha⟩, hb⟩
  refine ⟨?_, hb⟩
  obtain ⟨tagged, t, -, hr⟩ := ans_im ha hs.im star_list hs.inm hs.ims
  rw [hr]
  rfl
end Cn
abbrev HasMax := HasMaxL
open Cn
theorem lit_fld (w : World) (v : ByteArray) : SlR (w.alloc (.cells #[.string nIM, .string v] 25)) e_ss (.slice (some ⟨w.heap.size, 0, none⟩) 1 1) [(nIM, v)] := SlR.lit (enc := e_ss) w [.string nIM, .string v] 25 [(nIM, v)] rfl
theorem tagsize {t : Tg.Tag} (h : Tg.good t) : (mkS (Tg.text t)).size ≤ 104 := by
  rw [mkS_size]
  have := h.1
  obtain ⟨wk, a⟩ := t
  cases wk <;> simp [Tg.text, sl_len] at * <;> omega
theorem strong_self (t : Tg.Tag) : strongF t t = !t.1 := by unfold strongF; cases t.1 <;> simp
theorem weak_self (t : Tg.Tag) : weakF t t = true := by unfold weakF; simp
theorem datePrint_all (n : Int) (w : World) (hp : HasP10 w) :
    Calls Tryd.prog 17 #[.int .i64 n] w fun e w' => ((∃ k : Nat, k ≤ 253402300799 ∧ n = (k : Int) ∧ e = .returned (.tuple #[.string (mkS (Dt.printD k)), .int .i64 0])) ∨ ((n < 0 ∨ 253402300799 < n) ∧ e = .returned (.tuple #[.string ByteArray.empty, .int .i64 1]))) ∧ Below w.heap.size w w' := by
  by_cases h : n < 0 ∨ 253402300799 < n
  · refine (datePrint_no n w h).mono ?_
    rintro e w' ⟨he, rfl⟩
    exact ⟨.inr ⟨h, he⟩, Below.refl _ _⟩
  · obtain ⟨k, rfl⟩ : ∃ k : Nat, n = (k : Int) := ⟨n.toNat, by omega⟩
    refine (datePrint_ok k w (by omega) hp).mono ?_
    rintro e w' ⟨he, hb⟩
    exact ⟨.inl ⟨k, by omega, rfl, he⟩, hb⟩
end Go.Proofs.YtiijgbgknolmcaaDoor
