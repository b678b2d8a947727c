import Derived.Test.YtgnblkmpoigejaaGreatDoorV23
set_option linter.unusedVariables false
set_option linter.unusedSimpArgs false
namespace Go.Proofs.YtgnblkmpoigejaaGreatDoor
set_option maxRecDepth 20000
open Go.RowKit Go.Shelf
namespace Ca
open Bk
def keepK (key : ByteArray) (x : Ce) : Bool := !decide (x.key = key)
def dropC (xs : List Ce) (t : ByteArray) : List Ce := if normE t ≠ 0 then xs else xs.filter (keepK (normK t))
theorem dropC_pl (xs : List Ce) (t : ByteArray) : (dropC xs t).map Ce.pl = dropX (xs.map Ce.pl) t := by
  unfold dropC dropX
  split
  · rfl
  · rw [List.filter_map]
    rfl
theorem dropC_len (xs : List Ce) (t : ByteArray) : (dropC xs t).length ≤ xs.length := by
  unfold dropC
  split
  · exact Nat.le_refl _
  · exact List.length_filter_le _ _
set_option maxHeartbeats 4000000 in
theorem dropC_any (n0 M made : Nat) (A : Ad) (room : Int) (xs : List Ce) (t : ByteArray) (w : World) (h : CaS w n0 A room M xs made) (hm : made ≤ 9223372036854775807) (ht : t.size ≤ 281474976710656) (he : EnvK n0 w) :
    Calls Tryz.prog 23 #[ptr A.c, .string t] w fun e w' => e = .returned (.int .i64 ((xs.length : Int) - (dropC xs t).length)) ∧ CaS w' n0 A room M (dropC xs t) made ∧ RM CT A.ms n0 w w' := by
  have HN := Lib.hid (norm_any t w ht he)
  have HS := Lib.hid h
  have HQ : Hid (dropC xs t = if normE t ≠ 0 then xs else xs.filter (keepK (normK t))) := rfl
  have hn0 := h.n0w
  have hl20 := h.t.len
  have hin := normE_in t
  clear h he
  generalize dropC xs t = R at *
  generalize normE t = E at *
  generalize normK t = key at *
  go_enter Tryz.func23, Tryz.ntmps23
  go_wp2_with fail
  refine HN.out.mono ?_
  rintro e w1 ⟨rfl, b1⟩
  have HS1 := Lib.hid (HS.out.below b1)
  have HB1 := Lib.hid b1
  clear b1 HN
  by_cases hE : E = 0
  · subst hE
    have HR : Hid (R = xs.filter (keepK key)) := by show _ = _; rw [HQ.out, if_neg (by simp)]
    clear HQ hin
    obtain ⟨ns, hrow, hkv⟩ := HS1.out.row
    have HK := Lib.hid (keys_any n0 A.pr A.cr A.mr room ns w1 hrow)
    rw [kv_names hkv] at HK
    have p1 := HS1.out.t.blk.cell 1
    clear hrow hkv
    go_wp2_with fail
    refine HK.out.mono ?_
    rintro e w2 ⟨v, rfl, ho, b2⟩
    have HO := Lib.hid ho
    have hfm : ∃ Av cv, v = .slice Av xs.length cv := by
      obtain ⟨Av, cv, he, -⟩ := (SlR.of_owns ho).form
      rw [List.length_map] at he
      exact ⟨Av, cv, he⟩
    obtain ⟨Av, cv, rfl⟩ := hfm
    have HS2 := Lib.hid (HS1.out.below b2)
    have BW2 := Lib.hid (HB1.out.trans (b2.mono HB1.out.size))
    clear ho p1 HK b2
    go_wp2_with fail
    go_loopw [7, 23] (fun q i wr => ∃ (k : Nat), k ≤ xs.length ∧ i = .int .i64 k ∧ q = .int .i64 ((k : Int) - ((xs.take k).filter (keepK key)).length) ∧ CaS wr n0 A room M ((xs.take k).filter (keepK key) ++ xs.drop k) made ∧ RM CT A.ms n0 w2 wr) (fun _ i _ => xs.length - (intOf i).toNat)
    case atStart => exact ⟨0, by omega, rfl, rfl, HS2.out, RM.refl _ _ _ _⟩
    case round =>
      obtain ⟨k, hk, rfl, rfl, hS, hr⟩ := hrel
      have HSr := Lib.hid hS
      have HRr := Lib.hid hr
      have hfl : ((xs.take k).filter (keepK key)).length ≤ k := Nat.le_trans (List.length_filter_le _ _) (by rw [List.length_take]; omega)
      by_cases hlt : k < xs.length
      · have hlt' : k < (xs.map (·.n)).length := by rw [List.length_map]; exact hlt
        obtain ⟨bb, off, c3, he, hcc, hbb, hcell⟩ := (SlR.of_owns (Owns.rm HO.out hr (by decide))).texts (by omega)
        injection he with g1 g2 g3
        subst g1 g3
        have c0 := hcell k hlt'
        rw [List.getElem_map] at c0
        have hdr : xs.drop k = xs[k] :: xs.drop (k + 1) := List.drop_eq_getElem_cons hlt
        have htk : (xs.take (k + 1)).filter (keepK key) = (xs.take k).filter (keepK key) ++ (if keepK key xs[k] = true then [xs[k]] else []) := by
          rw [List.take_add_one, List.getElem?_eq_getElem hlt, List.filter_append]
          congr 1
          cases hq : keepK key xs[k] <;> simp [hq]
        rw [hdr] at HSr
        have HTK := Lib.hid htk
        clear hcell g2 hcc hS hr htk hdr
        generalize xs[k] = x at *
        generalize (xs.take k).filter (keepK key) = F at *
        have hxm : x ∈ F ++ x :: xs.drop (k + 1) := by simp
        have c3 := HSr.out.t.blk.cell 3
        have hlk := HSr.out.t.look hm hxm
        have x11 : wr.cell? ⟨x.b, 11, none⟩ = some (.string x.key) := (HSr.out.t.ent x hxm).blk.cell 11
        by_cases hkey : x.key = key
        · have hq : (x.key.toList == key.toList) = true := beqL_true hkey
          have HTF : Hid ((xs.take (k + 1)).filter (keepK key) = F) := by show _ = _; rw [HTK.out]; simp [keepK, hkey]
          have HG := Lib.hid (gone_any n0 M made A room F (xs.drop (k + 1)) x wr HSr.out hm)
          have hwr : IntKind.i64.wrap ((k : Int) - (F.length : Int) + 1) = (k : Int) - (F.length : Int) + 1 := by rw [IntKind.wrap_i64]; omega
          clear hkey HTK
          go_wp2_with fail
          refine HG.out.mono ?_
          rintro e w5 ⟨rfl, hS5, hr5⟩
          have HS5 := Lib.hid hS5
          have HR5 := Lib.hid (HRr.out.trans hr5.ct)
          clear hS5 hr5 c0 c3 hlk x11
          go_wp2_with fail
          go_roundw
          case rel =>
            refine ⟨k + 1, by omega, by go_num, ?_, by rw [HTF.out]; exact HS5.out, HR5.out⟩
            rw [HTF.out]
            congr 1
            omega
          case measure => simp [intOf]; omega
        · have hq : (x.key.toList == key.toList) = false := beqL_false hkey
          have HTF : Hid ((xs.take (k + 1)).filter (keepK key) = F ++ [x]) := by show _ = _; rw [HTK.out]; simp [keepK, hkey]
          clear hkey HTK
          go_wp2_with fail
          go_roundw
          case rel =>
            refine ⟨k + 1, by omega, by go_num, ?_, by rw [HTF.out, List.append_assoc]; exact HSr.out, HRr.out⟩
            rw [HTF.out]
            congr 1
            simp
            omega
          case measure => simp [intOf]; omega
      · obtain rfl : k = xs.length := by omega
        have hRx : xs.filter (keepK key) = R := HR.out.symm
        rw [List.take_of_length_le (Nat.le_refl _), List.drop_length, List.append_nil, hRx] at HSr
        rw [List.take_of_length_le (Nat.le_refl _), hRx]
        go_wp2_with fail
        go_ret
        exact ⟨rfl, HSr.out, (RM.of_below (ex := CT) (ms := A.ms) BW2.out hn0).trans HRr.out⟩
  · have hne : (E != 0) = true := by rw [bne_iff_ne]; exact hE
    have HR : Hid (R = xs) := by show _ = _; rw [HQ.out, if_pos hE]
    clear HQ hin hE
    go_wp2_with fail
    go_ret
    rw [HR.out]
    refine ⟨?_, HS1.out, RM.of_below HB1.out hn0⟩
    simp
end Ca
end Go.Proofs.YtgnblkmpoigejaaGreatDoor
