/- strings.EqualFold of a text and its own lowered form; TokenLowers: the law's walk. -/
import Derived.Test.YthhhlaoiampinaaDoorLower
import Derived.Test.YthhhlaoiampinaaDoorIsTok
import Derived.Test.YthhhlaoiampinaaDoorShelf
import Derived.Lib.DecodeN
import Derived.WalkSmall
import Derived.ScopeJumps
import Derived.WalkMore
namespace Go.Proofs.YthhhlaoiampinaaDoor
set_option maxRecDepth 20000
open Go.RowKit
def HasU8 (w : World) : Prop := Lib.Utf8Tabs 3 4 w ∧ 3 < w.heap.size ∧ 4 < w.heap.size
theorem HasU8.below {B : Nat} {w w' : World} (h : HasU8 w) (hB : B = w.heap.size) (hb : Below B w w') : HasU8 w' := by
  subst hB
  exact ⟨⟨fun c hc => (hb.cell h.2.1).trans (h.1.1 c hc), fun i hi => ⟨(hb.cell h.2.2).trans (h.1.2 i hi).1, (hb.cell h.2.2).trans (h.1.2 i hi).2⟩⟩, Nat.lt_of_lt_of_le h.2.1 hb.size, Nat.lt_of_lt_of_le h.2.2 hb.size⟩
theorem decodeN_low (n b0 b1 b2 b3 c1 c2 c3 : Nat) (h1 : c1 = b1 ∨ (b1 < 128 ∧ c1 < 128)) (h2 : c2 = b2 ∨ (b2 < 128 ∧ c2 < 128)) (h3 : c3 = b3 ∨ (b3 < 128 ∧ c3 < 128)) : Lib.decodeN n b0 c1 c2 c3 = Lib.decodeN n b0 b1 b2 b3 := by
  rcases h1 with rfl | ⟨p1, q1⟩
  · rcases h2 with rfl | ⟨p2, q2⟩
    · rcases h3 with rfl | ⟨p3, q3⟩
      · rfl
      · have a : ¬ b3 / 64 = 2 := by omega
        have b : ¬ c3 / 64 = 2 := by omega
        simp only [Lib.decodeN, a, b, and_false, if_false]
    · have a : ¬ b2 / 64 = 2 := by omega
      have b : ¬ c2 / 64 = 2 := by omega
      simp only [Lib.decodeN, a, b, and_false, false_and, if_false]
  · have a : ¬ b1 / 64 = 2 := by omega
    have b : ¬ c1 / 64 = 2 := by omega
    simp only [Lib.decodeN, a, b, and_false, false_and, if_false]
theorem decodeN_width (n b0 b1 b2 b3 : Nat) (hn : 1 ≤ n) : 1 ≤ (Lib.decodeN n b0 b1 b2 b3).2 ∧ (Lib.decodeN n b0 b1 b2 b3).2 ≤ n := by
  unfold Lib.decodeN
  repeat' split
  all_goals (simp only; omega)
theorem get_sl (s : ByteArray) (i : Nat) : s.get! i = ((sl s)[i]?).getD 0 := by
  show s.data[i]! = _
  rw [sl, Array.getElem?_toList]
  by_cases h : i < s.data.size
  · rw [getElem!_pos s.data i h, getElem?_pos s.data i h]; rfl
  · rw [getElem!_neg s.data i h, getElem?_neg s.data i h]; rfl
theorem lowB_case (c : UInt8) : Tok.lowB c = c ∨ (65 ≤ c.toNat ∧ c.toNat ≤ 90 ∧ (Tok.lowB c).toNat = c.toNat + 32) := by
  by_cases h : 65 ≤ (c.toNat : Int) ∧ (c.toNat : Int) ≤ 90
  · have := Tok.lowB_up h.1 h.2
    exact .inr ⟨by omega, by omega, by omega⟩
  · exact .inl (Tok.lowB_no (by omega))
/-- The runes of a text and of its lowered form, place by place. -/
theorem decode_low (s t : ByteArray) (pos : Nat) (ht : sl t = Tok.low (sl s)) (hp : pos < s.size) :
    (Lib.decodeGo (t.extract pos t.size)).2 = (Utf8.decode s pos).2 ∧ 1 ≤ (Utf8.decode s pos).2 ∧ pos + (Utf8.decode s pos).2 ≤ s.size ∧ (Utf8.decode s pos).1 ≤ 2147483647 ∧
    ((Lib.decodeGo (t.extract pos t.size)).1 = (Utf8.decode s pos).1 ∨ (65 ≤ (Utf8.decode s pos).1 ∧ (Utf8.decode s pos).1 ≤ 90 ∧ (Lib.decodeGo (t.extract pos t.size)).1 = (Utf8.decode s pos).1 + 32)) := by
  have hts : t.size = s.size := by rw [← sl_len, ht, Tok.low_len, sl_len]
  have hxs : (t.extract pos t.size).size = s.size - pos := by rw [ext_size _ _ _ (Nat.le_refl _), hts]
  have hg : ∀ k, (t.extract pos t.size).get! (0 + k) = (((sl s)[pos + k]?).map Tok.lowB).getD 0 := by
    intro k
    rw [get_sl, sl_extract_end, ht, Nat.zero_add]
    unfold Tok.low
    rw [List.getElem?_drop, List.getElem?_map]
  have hs : ∀ k, s.get! (pos + k) = ((sl s)[pos + k]?).getD 0 := fun k => get_sl s _
  have hk : ∀ k, ((t.extract pos t.size).get! (0 + k)).toNat = (s.get! (pos + k)).toNat ∨ ((s.get! (pos + k)).toNat < 128 ∧ ((t.extract pos t.size).get! (0 + k)).toNat < 128) := by
    intro k
    rw [hg, hs]
    cases (sl s)[pos + k]? with
    | none => exact .inl rfl
    | some c =>
      rcases lowB_case c with h | ⟨h1, h2, h3⟩
      · exact .inl (by simp [h])
      · exact .inr ⟨by simpa using (by omega : c.toNat < 128), by simp only [Option.map_some, Option.getD_some]; omega⟩
  have hdg : Lib.decodeGo (t.extract pos t.size) = Lib.decodeN (s.size - pos) ((t.extract pos t.size).get! (0 + 0)).toNat ((t.extract pos t.size).get! (0 + 1)).toNat ((t.extract pos t.size).get! (0 + 2)).toNat ((t.extract pos t.size).get! (0 + 3)).toNat := by
    unfold Lib.decodeGo
    rw [if_neg (by omega), Lib.decode_at, hxs, Nat.sub_zero]
  have hd : Utf8.decode s pos = Lib.decodeN (s.size - pos) (s.get! (pos + 0)).toNat (s.get! (pos + 1)).toNat (s.get! (pos + 2)).toNat (s.get! (pos + 3)).toNat := Lib.decode_at s pos
  have hw := decodeN_width (s.size - pos) (s.get! (pos + 0)).toNat (s.get! (pos + 1)).toNat (s.get! (pos + 2)).toNat (s.get! (pos + 3)).toNat (by omega)
  have hle := decode_le s pos
  have h0 : (sl s)[pos + 0]? = some s[pos] := sl_getElem? s pos hp
  have e0 : (s.get! (pos + 0)) = s[pos] := by rw [hs, h0]; rfl
  have e1 : (t.extract pos t.size).get! (0 + 0) = Tok.lowB s[pos] := by rw [hg, h0]; rfl
  rcases lowB_case s[pos] with h | ⟨h1, h2, h3⟩
  · have : Lib.decodeGo (t.extract pos t.size) = Utf8.decode s pos := by
      rw [hdg, hd, e1, h, e0]
      exact decodeN_low _ _ _ _ _ _ _ _ (hk 1) (hk 2) (hk 3)
    rw [this]
    rw [hd] at hle ⊢
    exact ⟨rfl, hw.1, by omega, hle, .inl rfl⟩
  · have d1 : Utf8.decode s pos = (s[pos].toNat, 1) := by rw [hd, e0]; unfold Lib.decodeN; rw [if_pos (by omega)]
    have d2 : Lib.decodeGo (t.extract pos t.size) = (s[pos].toNat + 32, 1) := by rw [hdg, e1, ← h3]; unfold Lib.decodeN; rw [if_pos (by omega)]
    rw [d1, d2]
    exact ⟨rfl, Nat.le_refl _, hp, by simp only; omega, .inr ⟨h1, h2, rfl⟩⟩
theorem or_low : ∀ c : UInt8, (128 ≤ c.toNat → ∃ m : Int, bits .or .u8 (c.toNat : Int) ((Tok.lowB c).toNat : Int) = m ∧ 128 ≤ m) ∧ (c.toNat < 128 → ∃ m : Int, bits .or .u8 (c.toNat : Int) ((Tok.lowB c).toNat : Int) = m ∧ m < 128) := by
  have h0 : ∀ n : Fin 256, (128 ≤ n.val → 128 ≤ bits .or .u8 ((UInt8.ofNat n.val).toNat : Int) ((Tok.lowB (UInt8.ofNat n.val)).toNat : Int)) ∧ (n.val < 128 → bits .or .u8 ((UInt8.ofNat n.val).toNat : Int) ((Tok.lowB (UInt8.ofNat n.val)).toNat : Int) < 128) := by decide +kernel
  intro c
  have := h0 ⟨c.toNat, c.toNat_lt⟩
  simp only [UInt8.ofNat_toNat] at this
  exact ⟨fun h => ⟨_, rfl, this.1 h⟩, fun h => ⟨_, rfl, this.2 h⟩⟩
/-- How the call stands where it goes over to runes. -/
def FoldJ (s t : ByteArray) (w : World) (a' : Act) (w' : World) : Prop := w' = w ∧ ∀ G : Prop, (∀ (i : Nat) (u2 u3 u4 u6 u7 u8 u9 u10 u11 u12 u13 u14 u15 u16 u17 u18 u19 u20 u21 u22 u23 u24 u25 u26 u27 u28 u29 u30 u31 u32 u33 u34 u35 u36 u37 u38 u39 u40 u41 u42 u43 u44 u45 u46 u47 u48 u49 u50 u51 u52 u53 u54 u55 u56 u57 u58 u59 u60 u61 u62 u63 u64 u65 u66 u67 u68 u69 u70 u71 u72 u73 u74 u75 u76 u77 u78 u79 u80 u81 u82 u83 u84 u85 u86 u87 u88 u89 u90 u91 u92 u93 u94 u95 u96 u97 u98 u99 u100 u101 u102 u103 u104 u105 u106 u107 u108 u109 u110 u111 u112 u113 u114 u115 u116 u117 u118 u119 u120 u121 u122 : Value), i < s.size → a' = { tmps := #[.string s, .string t, u2, u3, u4, .int .i64 i, u6, u7, u8, u9, u10, u11, u12, u13, u14, u15, u16, u17, u18, u19, u20, u21, u22, u23, u24, u25, u26, u27, u28, u29, u30, u31, u32, u33, u34, u35, u36, u37, u38, u39, u40, u41, u42, u43, u44, u45, u46, u47, u48, u49, u50, u51, u52, u53, u54, u55, u56, u57, u58, u59, u60, u61, u62, u63, u64, u65, u66, u67, u68, u69, u70, u71, u72, u73, u74, u75, u76, u77, u78, u79, u80, u81, u82, u83, u84, u85, u86, u87, u88, u89, u90, u91, u92, u93, u94, u95, u96, u97, u98, u99, u100, u101, u102, u103, u104, u105, u106, u107, u108, u109, u110, u111, u112, u113, u114, u115, u116, u117, u118, u119, u120, u121, u122], defers := [] } → G) → G
theorem FoldJ.mk {s t : ByteArray} {w : World} {i : Nat} {u2 u3 u4 u6 u7 u8 u9 u10 u11 u12 u13 u14 u15 u16 u17 u18 u19 u20 u21 u22 u23 u24 u25 u26 u27 u28 u29 u30 u31 u32 u33 u34 u35 u36 u37 u38 u39 u40 u41 u42 u43 u44 u45 u46 u47 u48 u49 u50 u51 u52 u53 u54 u55 u56 u57 u58 u59 u60 u61 u62 u63 u64 u65 u66 u67 u68 u69 u70 u71 u72 u73 u74 u75 u76 u77 u78 u79 u80 u81 u82 u83 u84 u85 u86 u87 u88 u89 u90 u91 u92 u93 u94 u95 u96 u97 u98 u99 u100 u101 u102 u103 u104 u105 u106 u107 u108 u109 u110 u111 u112 u113 u114 u115 u116 u117 u118 u119 u120 u121 u122 : Value} (h : i < s.size) : FoldJ s t w { tmps := #[.string s, .string t, u2, u3, u4, .int .i64 i, u6, u7, u8, u9, u10, u11, u12, u13, u14, u15, u16, u17, u18, u19, u20, u21, u22, u23, u24, u25, u26, u27, u28, u29, u30, u31, u32, u33, u34, u35, u36, u37, u38, u39, u40, u41, u42, u43, u44, u45, u46, u47, u48, u49, u50, u51, u52, u53, u54, u55, u56, u57, u58, u59, u60, u61, u62, u63, u64, u65, u66, u67, u68, u69, u70, u71, u72, u73, u74, u75, u76, u77, u78, u79, u80, u81, u82, u83, u84, u85, u86, u87, u88, u89, u90, u91, u92, u93, u94, u95, u96, u97, u98, u99, u100, u101, u102, u103, u104, u105, u106, u107, u108, u109, u110, u111, u112, u113, u114, u115, u116, u117, u118, u119, u120, u121, u122], defers := [] } w := ⟨rfl, fun _ k => k i u2 u3 u4 u6 u7 u8 u9 u10 u11 u12 u13 u14 u15 u16 u17 u18 u19 u20 u21 u22 u23 u24 u25 u26 u27 u28 u29 u30 u31 u32 u33 u34 u35 u36 u37 u38 u39 u40 u41 u42 u43 u44 u45 u46 u47 u48 u49 u50 u51 u52 u53 u54 u55 u56 u57 u58 u59 u60 u61 u62 u63 u64 u65 u66 u67 u68 u69 u70 u71 u72 u73 u74 u75 u76 u77 u78 u79 u80 u81 u82 u83 u84 u85 u86 u87 u88 u89 u90 u91 u92 u93 u94 u95 u96 u97 u98 u99 u100 u101 u102 u103 u104 u105 u106 u107 u108 u109 u110 u111 u112 u113 u114 u115 u116 u117 u118 u119 u120 u121 u122 h rfl⟩
theorem FoldJ.elim {s t : ByteArray} {w : World} {G : Act → World → Prop} (h : ∀ (i : Nat) (u2 u3 u4 u6 u7 u8 u9 u10 u11 u12 u13 u14 u15 u16 u17 u18 u19 u20 u21 u22 u23 u24 u25 u26 u27 u28 u29 u30 u31 u32 u33 u34 u35 u36 u37 u38 u39 u40 u41 u42 u43 u44 u45 u46 u47 u48 u49 u50 u51 u52 u53 u54 u55 u56 u57 u58 u59 u60 u61 u62 u63 u64 u65 u66 u67 u68 u69 u70 u71 u72 u73 u74 u75 u76 u77 u78 u79 u80 u81 u82 u83 u84 u85 u86 u87 u88 u89 u90 u91 u92 u93 u94 u95 u96 u97 u98 u99 u100 u101 u102 u103 u104 u105 u106 u107 u108 u109 u110 u111 u112 u113 u114 u115 u116 u117 u118 u119 u120 u121 u122 : Value), i < s.size → G { tmps := #[.string s, .string t, u2, u3, u4, .int .i64 i, u6, u7, u8, u9, u10, u11, u12, u13, u14, u15, u16, u17, u18, u19, u20, u21, u22, u23, u24, u25, u26, u27, u28, u29, u30, u31, u32, u33, u34, u35, u36, u37, u38, u39, u40, u41, u42, u43, u44, u45, u46, u47, u48, u49, u50, u51, u52, u53, u54, u55, u56, u57, u58, u59, u60, u61, u62, u63, u64, u65, u66, u67, u68, u69, u70, u71, u72, u73, u74, u75, u76, u77, u78, u79, u80, u81, u82, u83, u84, u85, u86, u87, u88, u89, u90, u91, u92, u93, u94, u95, u96, u97, u98, u99, u100, u101, u102, u103, u104, u105, u106, u107, u108, u109, u110, u111, u112, u113, u114, u115, u116, u117, u118, u119, u120, u121, u122], defers := [] } w) : ∀ a' w', FoldJ s t w a' w' → G a' w' := by
  rintro a' w' ⟨rfl, hJ⟩
  refine hJ _ ?_
  intro i u2 u3 u4 u6 u7 u8 u9 u10 u11 u12 u13 u14 u15 u16 u17 u18 u19 u20 u21 u22 u23 u24 u25 u26 u27 u28 u29 u30 u31 u32 u33 u34 u35 u36 u37 u38 u39 u40 u41 u42 u43 u44 u45 u46 u47 u48 u49 u50 u51 u52 u53 u54 u55 u56 u57 u58 u59 u60 u61 u62 u63 u64 u65 u66 u67 u68 u69 u70 u71 u72 u73 u74 u75 u76 u77 u78 u79 u80 u81 u82 u83 u84 u85 u86 u87 u88 u89 u90 u91 u92 u93 u94 u95 u96 u97 u98 u99 u100 u101 u102 u103 u104 u105 u106 u107 u108 u109 u110 u111 u112 u113 u114 u115 u116 u117 u118 u119 u120 u121 u122 hlt he
  rw [he]
  exact h i u2 u3 u4 u6 u7 u8 u9 u10 u11 u12 u13 u14 u15 u16 u17 u18 u19 u20 u21 u22 u23 u24 u25 u26 u27 u28 u29 u30 u31 u32 u33 u34 u35 u36 u37 u38 u39 u40 u41 u42 u43 u44 u45 u46 u47 u48 u49 u50 u51 u52 u53 u54 u55 u56 u57 u58 u59 u60 u61 u62 u63 u64 u65 u66 u67 u68 u69 u70 u71 u72 u73 u74 u75 u76 u77 u78 u79 u80 u81 u82 u83 u84 u85 u86 u87 u88 u89 u90 u91 u92 u93 u94 u95 u96 u97 u98 u99 u100 u101 u102 u103 u104 u105 u106 u107 u108 u109 u110 u111 u112 u113 u114 u115 u116 u117 u118 u119 u120 u121 u122 hlt
set_option maxHeartbeats 3200000 in
theorem equalFold_low (s t : ByteArray) (w : World) (hz : s.size ≤ 140737488351232) (ht : sl t = Tok.low (sl s)) (hu : HasU8 w) :
    Calls Tryd.prog 15 #[.string s, .string t] w fun e w' => e = .returned (.bool true) ∧ Below w.heap.size w w' := by
  have hts : t.size = s.size := by rw [← sl_len, ht, Tok.low_len, sl_len]
  have HT := Lib.hid ht
  have HU := Lib.hid (fun w' (hb : Below w.heap.size w w') => hu.below rfl hb)
  have hat : ∀ i (h : i < s.size), t[i]'(by omega) = Tok.lowB s[i] := by
    intro i h
    have h1 := sl_getElem? t i (by omega)
    rw [ht] at h1
    unfold Tok.low at h1
    rw [List.getElem?_map, sl_getElem? s i h] at h1
    exact (Option.some.inj h1).symm
  have HAT := Lib.hid hat
  clear hat hu ht
  have hmin : min (s.size : Int) (t.size : Int) = (s.size : Int) := by omega
  go_enter Tryd.func15, Tryd.ntmps15
  go_wp2_with fail
  refine wp_scope_jumps 0 (FoldJ s t w) (fun _ _ => 0) rfl ?first ?pass
  case first =>
   go_wp2_with fail
   go_loop [5] (fun v => ∃ i : Nat, i ≤ s.size ∧ v = .int .i64 i) (fun v => s.size - (intOf v).toNat)
   case atStart => exact ⟨0, by omega, rfl⟩
   case round =>
     obtain ⟨i, hi, rfl⟩ := hrel
     by_cases hlt : i < s.size
     · have hlt' : i < t.size := by omega
       have hi1 : (i : Int) < (s.size : Int) := by omega
       have hi2 : (i : Int) < (t.size : Int) := by omega
       obtain ⟨c, hc⟩ : ∃ c, s[i] = c := ⟨_, rfl⟩
       have e1 : t[i] = Tok.lowB c := by rw [HAT.out i hlt, hc]
       by_cases h128 : 128 ≤ c.toNat
       · obtain ⟨m, hm, hm2⟩ := (or_low c).1 h128
         have d1 : decide ((128 : Int) ≤ m) = true := decide_eq_true hm2
         go_wp2_with fail
         go_step3
         exact ⟨rfl, FoldJ.mk hlt⟩
       · obtain ⟨m, hm, hm2⟩ := (or_low c).2 (by omega)
         have d1 : decide ((128 : Int) ≤ m) = false := decide_eq_false (by omega)
         have hcs := lowB_case c
         have hcl := c.toNat_lt
         have hdc : (Tok.lowB c).toNat = c.toNat ∨ (65 ≤ c.toNat ∧ c.toNat ≤ 90 ∧ (Tok.lowB c).toNat = c.toNat + 32) := by
           rcases hcs with h | h
           · exact .inl (by rw [h])
           · exact .inr h
         clear hcs
         generalize Tok.lowB c = d at *
         generalize hn : c.toNat = n at *
         generalize hn' : d.toNat = n' at *
         rcases hdc with hdc | ⟨hd1, hd2, hd3⟩
         · have q1 : ((n' : Int) == (n : Int)) = true := by rw [beq_iff_eq]; omega
           have q1' : (n' == n) = true := by rw [beq_iff_eq]; omega
           clear hdc hcl
           go_wp2_with fail
           go_round
           case rel => exact ⟨i + 1, by omega, by go_num⟩
           case measure => simp [intOf]; omega
         · have q1 : ((n' : Int) == (n : Int)) = false := by rw [beq_eq_false_iff_ne]; omega
           have q1' : (n' == n) = false := by rw [beq_eq_false_iff_ne]; omega
           have q2' : decide (n' < n) = false := by rw [decide_eq_false_iff_not]; omega
           have q3' : decide (65 ≤ n) = true := by rw [decide_eq_true_iff]; omega
           have q4' : decide (n ≤ 90) = true := by rw [decide_eq_true_iff]; omega
           have q2 : decide ((n' : Int) < (n : Int)) = false := by rw [decide_eq_false_iff_not]; omega
           have q3 : decide ((65 : Int) ≤ (n : Int)) = true := by rw [decide_eq_true_iff]; omega
           have q4 : decide ((n : Int) ≤ (90 : Int)) = true := by rw [decide_eq_true_iff]; omega
           have q5 : IntKind.u8.wrap ((n : Int) + 97) = (n : Int) + 97 := by simp [IntKind.wrap, IntKind.bits, IntKind.signed]; omega
           have q6 : IntKind.u8.wrap ((n : Int) + 97 - 65) = (n' : Int) := by simp [IntKind.wrap, IntKind.bits, IntKind.signed]; omega
           clear hd1 hd2 hd3 hcl
           go_wp2_with fail
           go_round
           case rel => exact ⟨i + 1, by omega, by go_num⟩
           case measure => simp [intOf]; omega
     · have hi0 : i = s.size := by omega
       subst hi0
       have hb : ((s.size : Int) == (t.size : Int)) = true := by rw [beq_iff_eq]; omega
       go_wp2_with fail
       unfold Exit.jump
       dsimp only
       go_ret
       exact ⟨rfl, Below.refl _ _⟩
  case pass =>
    refine FoldJ.elim ?_
    intro i u2 u3 u4 u6 u7 u8 u9 u10 u11 u12 u13 u14 u15 u16 u17 u18 u19 u20 u21 u22 u23 u24 u25 u26 u27 u28 u29 u30 u31 u32 u33 u34 u35 u36 u37 u38 u39 u40 u41 u42 u43 u44 u45 u46 u47 u48 u49 u50 u51 u52 u53 u54 u55 u56 u57 u58 u59 u60 u61 u62 u63 u64 u65 u66 u67 u68 u69 u70 u71 u72 u73 u74 u75 u76 u77 u78 u79 u80 u81 u82 u83 u84 u85 u86 u87 u88 u89 u90 u91 u92 u93 u94 u95 u96 u97 u98 u99 u100 u101 u102 u103 u104 u105 u106 u107 u108 u109 u110 u111 u112 u113 u114 u115 u116 u117 u118 u119 u120 u121 u122 hlt
    have hsz1 : (s.extract i s.size).size = s.size - i := ext_size _ _ _ (Nat.le_refl _)
    have htx : Hid (sl (t.extract i s.size) = Tok.low (sl (s.extract i s.size))) := by
      show _ = _
      rw [← hts, sl_extract_end, hts, sl_extract_end, HT.out]; unfold Tok.low; rw [List.map_drop]
    have htz : (t.extract i s.size).size = (s.extract i s.size).size := by rw [ext_size _ _ _ (by omega), hsz1]
    have hi3 : (i : Int) ≤ (s.size : Int) := by omega
    have hi4 : (i : Int) ≤ (t.size : Int) := by omega
    obtain ⟨S, hS⟩ : ∃ S, s.extract i s.size = S := ⟨_, rfl⟩
    obtain ⟨T, hT⟩ : ∃ T, t.extract i s.size = T := ⟨_, rfl⟩
    rw [hS] at hsz1 htz htx
    rw [hT] at htz htx
    have hSz : S.size ≤ 140737488351232 := by omega
    go_wp2_with fail
    clear hsz1 hS hT hi3 hi4
    go_loopw [1] (fun v wr => ∃ pos : Nat, pos ≤ S.size ∧ v = .string (T.extract pos T.size) ∧ wr.heap[w.heap.size]? = some (.stringIter S pos) ∧ Below w.heap.size w wr) (fun _ wr => S.size - wr.iterPos w.heap.size)
    case atStart => exact ⟨0, by omega, by congr 1; exact sl_inj (by rw [sl_extract_end]; rfl), World.iter_heap w S 0, (Below.refl _ _).alloc (Nat.le_refl _) _⟩
    case round =>
      obtain ⟨pos, hpos, rfl, hit, hbel⟩ := hrel
      have HIT := Lib.hid hit
      have hip : wr.iterPos w.heap.size = pos := iterPos_of hit
      have hxz : (T.extract pos T.size).size = S.size - pos := by rw [ext_size _ _ _ (Nat.le_refl _), htz]
      by_cases hp : pos < S.size
      · obtain ⟨q1, q2, q3, q4, q5⟩ := decode_low S T pos htx.out hp
        have hnx : ∀ ty, (Instr.next (.pointer (some ⟨w.heap.size, 0, none⟩)) true ty).run Tryd.prog wr = _ := fun ty => Lib.run_next_any_at wr w.heap.size S pos ty hit hp
        have hbi := Lib.below_iterAt hbel (Nat.le_refl _) S (pos + (Utf8.decode S pos).2)
        have hih := Lib.hid (Lib.iterAt_heap wr w.heap.size S pos (pos + (Utf8.decode S pos).2) hit)
        have hDR := Lib.hid (Tryd.utf8_DecodeRuneInString (T.extract pos T.size) (wr.iterAt w.heap.size S (pos + (Utf8.decode S pos).2)) (HU.out _ hbi).1)
        have hex : Hid ((T.extract pos T.size).extract (Utf8.decode S pos).2 (T.extract pos T.size).size = T.extract (pos + (Utf8.decode S pos).2) T.size) := sl_inj (by rw [sl_extract_end, sl_extract_end, sl_extract_end, List.drop_drop])
        rw [q1] at hDR
        generalize wr.iterAt w.heap.size S (pos + (Utf8.decode S pos).2) = wi at *
        generalize (Lib.decodeGo (T.extract pos T.size)).1 = r' at *
        generalize (Utf8.decode S pos).1 = r at *
        generalize (Utf8.decode S pos).2 = wd at *
        generalize T.extract pos T.size = X at *
        have hx0 : (((X.size : Nat) : Int) == 0) = false := by rw [beq_eq_false_iff_ne]; omega
        have hwx : (wd : Int) ≤ (X.size : Int) := by omega
        clear hit q1
        go_wp2_with fail
        refine hDR.out.mono ?_
        rintro e w2 ⟨rfl, b2⟩
        have hb2 := hbi.trans (b2.mono hbi.size)
        have hih2 := Lib.hid ((b2.block _ (by have := (Array.getElem?_eq_some_iff.1 hih.out).1; exact this)).trans hih.out)
        have hip2 : w2.iterPos w.heap.size = pos + wd := iterPos_of hih2.out
        clear hnx hbi hDR
        rcases q5 with q5 | ⟨q6, q7, q8⟩
        · have e1 : ((r' : Int) == (r : Int)) = true := by rw [beq_iff_eq]; omega
          have e1' : (r' == r) = true := by rw [beq_iff_eq]; omega
          clear q5
          go_wp2_with fail
          go_roundw
          case rel => exact ⟨pos + wd, by omega, by rw [← hxz, hex.out], hih2.out, hb2⟩
          case measure => rw [hip2, hip]; omega
        · have e1 : ((r' : Int) == (r : Int)) = false := by rw [beq_eq_false_iff_ne]; omega
          have e1' : (r' == r) = false := by rw [beq_eq_false_iff_ne]; omega
          have e2 : decide ((r' : Int) < (r : Int)) = false := by rw [decide_eq_false_iff_not]; omega
          have e2' : decide (r' < r) = false := by rw [decide_eq_false_iff_not]; omega
          have e3 : decide ((r' : Int) < 128) = true := by rw [decide_eq_true_iff]; omega
          have e3' : decide (r' < 128) = true := by rw [decide_eq_true_iff]; omega
          have e4 : decide ((65 : Int) ≤ (r : Int)) = true := by rw [decide_eq_true_iff]; omega
          have e4' : decide (65 ≤ r) = true := by rw [decide_eq_true_iff]; omega
          have e5 : decide ((r : Int) ≤ (90 : Int)) = true := by rw [decide_eq_true_iff]; omega
          have e5' : decide (r ≤ 90) = true := by rw [decide_eq_true_iff]; omega
          have e6 : IntKind.i32.wrap ((r : Int) + 97) = (r : Int) + 97 := by simp [IntKind.wrap, IntKind.bits, IntKind.signed]; omega
          have e7 : IntKind.i32.wrap ((r : Int) + 97 - 65) = (r' : Int) := by simp [IntKind.wrap, IntKind.bits, IntKind.signed]; omega
          clear q6 q7 q8
          go_wp2_with fail
          go_roundw
          case rel => exact ⟨pos + wd, by omega, by rw [← hxz, hex.out], hih2.out, hb2⟩
          case measure => rw [hip2, hip]; omega
      · have hnx : ∀ ty, (Instr.next (.pointer (some ⟨w.heap.size, 0, none⟩)) true ty).run Tryd.prog wr = _ := fun ty => Lib.run_next_end_at wr w.heap.size S pos ty hit hp
        have hx0 : ((((T.extract pos T.size).size : Nat) : Int) == 0) = true := by rw [beq_iff_eq]; omega
        have hx1 : (((S.size - pos : Nat) : Int) == 0) = true := by rw [beq_iff_eq]; omega
        go_wp2_with fail
        unfold Exit.jump
        dsimp only
        go_ret
        exact ⟨rfl, hbel⟩
end Go.Proofs.YthhhlaoiampinaaDoor
