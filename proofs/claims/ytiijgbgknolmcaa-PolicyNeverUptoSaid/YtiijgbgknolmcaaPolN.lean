/- PolicyNever: the law's walk. -/
import Derived.Test.YtiijgbgknolmcaaMayB
import Derived.Test.YtiijgbgknolmcaaRest
import Derived.Test.YtiijgbgknolmcaaFieldLaws
namespace Go.Proofs.Ytiijgbgknolmcaa
set_option maxRecDepth 20000
open Go.RowKit
namespace Dp
theorem wt_append (l m : List Fld) : wt (l ++ m) = wt l + wt m := by unfold wt; rw [List.map_append, List.sum_append]
theorem wt_filter (p : Fld → Bool) : ∀ l : List Fld, wt (l.filter p) ≤ wt l
  | [] => Nat.le_refl _
  | x :: l => by
    have ih := wt_filter p l
    unfold wt at *
    rw [List.filter_cons]
    split
    · simp only [List.map_cons, List.sum_cons]; omega
    · simp only [List.map_cons, List.sum_cons]; omega
theorem wt_set (l : List Fld) (n a : ByteArray) : wt (setF l n a) ≤ wt l + n.size + a.size + 2 := by
  have h1 : wt [(n, a)] = n.size + a.size + 2 := by simp [wt]
  rcases setF_shape l n with ⟨_, hs⟩ | ⟨k, hk, _, _, hs⟩
  · rw [hs, wt_append, h1]; omega
  · rw [hs, wt_append, wt_append, h1]
    have h2 : wt (dropF (l.drop (k + 1)) n) ≤ wt (l.drop (k + 1)) := wt_filter _ _
    have h3 : wt l = wt (l.take k) + (wt [l[k]] + wt (l.drop (k + 1))) := by
      conv => lhs; rw [← List.take_append_drop k l, wt_append, List.drop_eq_getElem_cons hk, show l[k] :: l.drop (k + 1) = [l[k]] ++ l.drop (k + 1) from rfl, wt_append]
    omega

def fourS : List ByteArray := [⟨#[110, 111, 45, 115, 116, 111, 114, 101]⟩, ⟨#[112, 114, 105, 118, 97, 116, 101]⟩, ⟨#[78, 79, 45, 83, 84, 79, 82, 69, 44, 32, 109, 97, 120, 45, 97, 103, 101, 61, 53]⟩, ⟨#[109, 97, 120, 45, 97, 103, 101, 61, 53, 44, 112, 114, 105, 118, 97, 116, 101]⟩]
theorem four_may (m : ByteArray) (l : List Fld) (code : Int) (k : List Fld) : ∀ s ∈ fourS, mayF m l code (setF k nCC s) = false := by
  intro s hs
  have e : dirsF (setF k nCC s) = dirsD s := by unfold dirsF txt; rw [selF_set_self, joinS_one]
  have h : ∀ s ∈ fourS, lNSP.any (fun n => hasD (dirsD s) n) = true := by
    intro s hs
    simp only [fourS, List.mem_cons, List.not_mem_nil, or_false] at hs
    rcases hs with rfl | rfl | rfl | rfl <;> kernel_rfl
  unfold mayF
  rw [e]
  split
  · rfl
  · rw [if_pos (.inr (h s hs))]
theorem ask_may (m : ByteArray) (l : List Fld) (code : Int) (k : List Fld) : mayF m (setF l nCC ⟨#[110, 111, 45, 115, 116, 111, 114, 101]⟩) code k = false := by
  have e : dirsF (setF l nCC ⟨#[110, 111, 45, 115, 116, 111, 114, 101]⟩) = dirsD ⟨#[110, 111, 45, 115, 116, 111, 114, 101]⟩ := by unfold dirsF txt; rw [selF_set_self, joinS_one]
  have h : lNS.any (fun n => hasD (dirsD ⟨#[110, 111, 45, 115, 116, 111, 114, 101]⟩) n) = true := by kernel_rfl
  unfold mayF
  rw [e]
  split
  · rfl
  · rw [if_pos (.inl h)]
theorem vary_may (m : ByteArray) (l : List Fld) (code : Int) (k : List Fld) : mayF m l code (setF k Vy.nVary ⟨#[42]⟩) = false := by
  have e : Vy.txt (setF k Vy.nVary ⟨#[42]⟩) Vy.nVary = ⟨#[42]⟩ := by unfold Vy.txt; rw [selF_set_self, joinS_one]
  have h : Vy.namesSC ⟨#[42]⟩ = (true, 0) := by kernel_rfl
  unfold mayF
  rw [e, h]
  split
  · rfl
  split
  · rfl
  split
  · rfl
  rw [if_pos (.inl rfl)]
theorem meth_may (m : ByteArray) (l : List Fld) (code : Int) (k : List Fld) (h : (m.toList == [71, 69, 84]) = false) : mayF m l code k = false := by
  unfold mayF
  rw [if_pos (.inl h)]
theorem young_get : mayF ⟨#[71, 69, 84]⟩ [] 200 youngL = true := by
  have h1 : codes.contains 200 = true := by kernel_rfl
  unfold mayF
  rw [show (((⟨#[71, 69, 84]⟩ : ByteArray).toList == [71, 69, 84])) = true from by rw [ba_toList]; rfl, h1, if_neg (by simp), show dirsF [] = [] from dirsF_no rfl, young_dirs]
  rw [if_neg (by rw [show lNS.any (fun n => hasD [] n) = false from by kernel_rfl, show lNSP.any (fun n => hasD [(nMA, true, (⟨#[54, 48]⟩ : ByteArray))] n) = false from by kernel_rfl]; simp)]
  rw [if_neg (by rw [show lAuth.any (fun n => isR [] n) = false from by kernel_rfl]; simp)]
  rw [show Vy.namesSC (Vy.txt youngL Vy.nVary) = (false, 0) from by kernel_rfl, if_neg (by simp)]
  rw [show lPub.any (fun n => hasD [(nMA, true, (⟨#[54, 48]⟩ : ByteArray))] n) = true from by kernel_rfl]; rfl
theorem young_post : mayF ⟨#[80, 79, 83, 84]⟩ [] 200 youngL = false := meth_may _ _ _ _ (by rw [ba_toList]; rfl)
/-- Four cells of a block. -/
structure B4 (w : World) (g : Nat) (a b c d : Value) : Prop where
  lt : g < w.heap.size
  c0 : w.cell? ⟨g, 0, none⟩ = some a
  c1 : w.cell? ⟨g, 1, none⟩ = some b
  c2 : w.cell? ⟨g, 2, none⟩ = some c
  c3 : w.cell? ⟨g, 3, none⟩ = some d
theorem B4.below {w w' : World} {g : Nat} {a b c d : Value} (h : B4 w g a b c d) (hb : Below w.heap.size w w') : B4 w' g a b c d :=
  ⟨Nat.lt_of_lt_of_le h.lt hb.size, (hb.cell h.lt).trans h.c0, (hb.cell h.lt).trans h.c1, (hb.cell h.lt).trans h.c2, (hb.cell h.lt).trans h.c3⟩
theorem B4.new (w : World) (a b c d : Value) (t : TypeId) : B4 (w.alloc (.cells #[a, b, c, d] t)) w.heap.size a b c d := by
  have h := new_cells w [a, b, c, d] t
  have e : ∀ k, ((⟨w.heap.size, 0, none⟩ : Addr).add k) = ⟨w.heap.size, k, none⟩ := fun k => by unfold Addr.add; split <;> simp_all
  simp only [e] at h
  exact ⟨by simp, h 0 _ rfl, h 1 _ rfl, h 2 _ rfl, h 3 _ rfl⟩
theorem B4.set2 {w : World} {g : Nat} {a b c d : Value} (h : B4 w g a b c d) (x : Value) : B4 (w.setCell ⟨g, 2, none⟩ x) g a b x d := by
  obtain ⟨h0, h1, h2, h3, h4⟩ := h
  refine ⟨by simpa using h0, ?_, ?_, ?_, ?_⟩ <;> simp [go_sem, h1, h2, h3, h4]
set_option maxHeartbeats 3200000 in
theorem young_pol (w : World) :
    Calls Try.prog 7 #[] w fun e w' => (∃ u, e = .returned (.agg #[.string ⟨#[]⟩, .string ⟨#[]⟩, .slice none 0 0, .string ⟨#[]⟩, .int .i64 200, .string ⟨#[]⟩, u, .string ⟨#[]⟩, .int .i64 1000, .int .i64 1000, .int .i64 0]) ∧ SlR w' e_ss u youngL) ∧ Below w.heap.size w w' := by
  go_enter Try.func7, Try.ntmps7
  go_wp2_with fail
  refine bodyPost_ret (v := .agg #[.string ⟨#[]⟩, .string ⟨#[]⟩, .slice none 0 0, .string ⟨#[]⟩, .int .i64 200, .string ⟨#[]⟩, .slice (some ⟨w.heap.size + 1, 0, none⟩) 1 1, .string ⟨#[]⟩, .int .i64 1000, .int .i64 1000, .int .i64 0]) (by simp [results, Try.results7, go_sem]) rfl ⟨⟨_, rfl, ?_⟩, ?_⟩
  · have h := SlR.lit (enc := e_ss) (w.alloc (.cells #[.string ⟨#[]⟩, .string ⟨#[]⟩, .slice none 0 0, .string ⟨#[]⟩, .int .i64 200, .string ⟨#[]⟩, .slice (some ⟨w.heap.size + 1, 0, none⟩) 1 1, .string ⟨#[]⟩, .int .i64 1000, .int .i64 1000, .int .i64 0] 29)) [.string nCC, .string ⟨#[109, 97, 120, 45, 97, 103, 101, 61, 54, 48]⟩] 37 youngL rfl
    have e : (w.alloc (.cells #[.string ⟨#[]⟩, .string ⟨#[]⟩, .slice none 0 0, .string ⟨#[]⟩, .int .i64 200, .string ⟨#[]⟩, .slice (some ⟨w.heap.size + 1, 0, none⟩) 1 1, .string ⟨#[]⟩, .int .i64 1000, .int .i64 1000, .int .i64 0] 29)).heap.size = w.heap.size + 1 := by simp
    rw [e] at h
    exact h
  · exact ((Below.refl w.heap.size w).alloc (Nat.le_refl _) _).alloc (by simp) _
theorem young_ok {w : World} {u : Value} (h : SlR w e_ss u youngL) : LOk w u youngL := ⟨h, by decide⟩
theorem nil_ok (w : World) : LOk w (.slice none 0 0) [] := ⟨SlR.nil w e_ss, by decide⟩
theorem four_cells : ([.string ⟨#[110, 111, 45, 115, 116, 111, 114, 101]⟩, .string ⟨#[112, 114, 105, 118, 97, 116, 101]⟩, .string ⟨#[78, 79, 45, 83, 84, 79, 82, 69, 44, 32, 109, 97, 120, 45, 97, 103, 101, 61, 53]⟩, .string ⟨#[109, 97, 120, 45, 97, 103, 101, 61, 53, 44, 112, 114, 105, 118, 97, 116, 101]⟩] : List Value) = fourS.flatMap es := rfl
set_option maxHeartbeats 12800000 in
theorem policyNever_core (m t : ByteArray) (rf : Value) (rb : ByteArray) (l : List Fld) (code : Int) (rs : ByteArray) (u : Value) (bd : ByteArray) (k : List Fld) (which : Int) (w : World) (hl : LOk w rf l) (hk : LOk w u k) (hls : wt l ≤ 1048576) (hks : wt k ≤ 1048576) (hw : Wide which) :
    Calls Try.prog 3 #[rqv m t rf rb, rsv code rs u bd, .int .i64 which] w fun e w' => e = .returned (.bool true) ∧ Below w.heap.size w w' := by
  obtain ⟨Al, cl, rfl, -⟩ := hl.sl.form
  obtain ⟨Ak, ck, rfl, -⟩ := hk.sl.form
  have b0 : Below w.heap.size w ((w.alloc (.cells #[.string m, .string t, (.slice Al l.length cl), .string rb] 24)).alloc (.cells #[.int .i64 code, .string rs, (.slice Ak k.length ck), .string bd] 26)) := ((Below.refl _ _).alloc (Nat.le_refl _) _).alloc (by simp) _
  have HMAY := Lib.hid (fun m t rf rb l code rs u bd k w (hl : LOk w rf l) hk => may_any m t rf rb l code rs u bd k w hl hk)
  unfold rqv rsv at *
  have hz0 : ((w.alloc (.cells #[.string m, .string t, (.slice Al l.length cl), .string rb] 24)).alloc (.cells #[.int .i64 code, .string rs, (.slice Ak k.length ck), .string bd] 26)).heap.size = w.heap.size + 2 := by simp
  have HQ0 : Hid (B4 ((w.alloc (.cells #[.string m, .string t, (.slice Al l.length cl), .string rb] 24)).alloc (.cells #[.int .i64 code, .string rs, (.slice Ak k.length ck), .string bd] 26)) w.heap.size (.string m) (.string t) (.slice Al l.length cl) (.string rb)) := (B4.new w _ _ _ _ _).below ((Below.refl _ _).alloc (Nat.le_refl _) _)
  have HP0 : Hid (B4 ((w.alloc (.cells #[.string m, .string t, (.slice Al l.length cl), .string rb] 24)).alloc (.cells #[.int .i64 code, .string rs, (.slice Ak k.length ck), .string bd] 26)) (w.heap.size + 1) (.int .i64 code) (.string rs) (.slice Ak k.length ck) (.string bd)) := by
    have h := B4.new (w.alloc (.cells #[.string m, .string t, (.slice Al l.length cl), .string rb] 24)) (.int .i64 code) (.string rs) (.slice Ak k.length ck) (.string bd) 26
    have e : (w.alloc (.cells #[.string m, .string t, (.slice Al l.length cl), .string rb] 24)).heap.size = w.heap.size + 1 := by simp
    rw [e] at h
    exact h
  have HL := Lib.hid (hl.below b0)
  have HK := Lib.hid (hk.below b0)
  have HR := Lib.hid (fun w => rest_any which 4 w hw (by omega))
  obtain ⟨kk, hkk, hk4⟩ : ∃ n : Nat, which % 4 = (n : Int) ∧ n < 4 := ⟨(which % 4).toNat, by omega, by omega⟩
  rw [hkk] at HR
  clear hl hk hkk
  have hfd : ∀ (y : Value) (w : World), (Instr.field 29 (.agg #[.string ⟨#[]⟩, .string ⟨#[]⟩, .slice none 0 0, .string ⟨#[]⟩, .int .i64 200, .string ⟨#[]⟩, y, .string ⟨#[]⟩, .int .i64 1000, .int .i64 1000, .int .i64 0]) 1).run Try.prog w = .ok (.agg #[.int .i64 200, .string ⟨#[]⟩, y, .string ⟨#[]⟩]) w := fun _ _ => by kernel_rfl
  go_enter Try.func3, Try.ntmps3
  go_wp2_with fail
  generalize ((w.alloc (.cells #[.string m, .string t, (.slice Al l.length cl), .string rb] 24)).alloc (.cells #[.int .i64 code, .string rs, (.slice Ak k.length ck), .string bd] 26)) = w0 at *
  refine (young_pol _).mono ?_
  rintro e w1 ⟨⟨y1, rfl, hy1⟩, b1⟩
  have HY1 := Lib.hid (young_ok hy1)
  clear hy1
  go_wp2_with fail
  refine (HMAY.out ⟨#[71, 69, 84]⟩ _ _ _ [] 200 _ y1 _ youngL w1 (nil_ok w1) HY1.out).mono ?_
  rintro e w2 ⟨rfl, b2⟩
  rw [young_get]
  have B2 := belT b1 b2
  go_wp2_with fail
  refine (young_pol _).mono ?_
  rintro e w3 ⟨⟨y3, rfl, hy3⟩, b3⟩
  have HY3 := Lib.hid (young_ok hy3)
  have B3 := belT B2 b3
  clear hy3
  go_wp2_with fail
  refine (HMAY.out ⟨#[80, 79, 83, 84]⟩ _ _ _ [] 200 _ y3 _ youngL w3 (nil_ok w3) HY3.out).mono ?_
  rintro e w4 ⟨rfl, b4⟩
  rw [young_post]
  have B4' := belT B3 b4
  go_wp2_with fail
  refine (HR.out _).mono ?_
  rintro e w' ⟨rfl, rfl⟩
  have B5 : Below w0.heap.size w0 (w4.alloc (.cells #[.string ⟨#[110, 111, 45, 115, 116, 111, 114, 101]⟩, .string ⟨#[112, 114, 105, 118, 97, 116, 101]⟩, .string ⟨#[78, 79, 45, 83, 84, 79, 82, 69, 44, 32, 109, 97, 120, 45, 97, 103, 101, 61, 53]⟩, .string ⟨#[109, 97, 120, 45, 97, 103, 101, 61, 53, 44, 112, 114, 105, 118, 97, 116, 101]⟩] 9)) := B4'.alloc B4'.size _
  obtain ⟨s, hs, hcell⟩ : ∃ s ∈ fourS, (w4.alloc (.cells #[.string ⟨#[110, 111, 45, 115, 116, 111, 114, 101]⟩, .string ⟨#[112, 114, 105, 118, 97, 116, 101]⟩, .string ⟨#[78, 79, 45, 83, 84, 79, 82, 69, 44, 32, 109, 97, 120, 45, 97, 103, 101, 61, 53]⟩, .string ⟨#[109, 97, 120, 45, 97, 103, 101, 61, 53, 44, 112, 114, 105, 118, 97, 116, 101]⟩] 9)).cell? ⟨w4.heap.size, kk, none⟩ = some (.string s) := by
    have hlt : kk < fourS.length := hk4
    refine ⟨fourS[kk], List.getElem_mem hlt, ?_⟩
    have h := new_cells w4 (fourS.flatMap es) 9 kk (.string fourS[kk]) (by rw [es_map]; simp [hlt])
    have e : ((⟨w4.heap.size, 0, none⟩ : Addr).add kk) = ⟨w4.heap.size, kk, none⟩ := by unfold Addr.add; split <;> simp_all
    rw [e, ← four_cells] at h
    exact h
  have hsz : s.size ≤ 100 := by
    have : ∀ s ∈ fourS, s.size ≤ 100 := by decide
    exact this s hs
  have HF1 := Lib.hid (four_may m l code k s hs)
  have HF2 := Lib.hid (ask_may m l code k)
  have HF3 := Lib.hid (vary_may m l code k)
  have HF4 := Lib.hid (meth_may m l code k)
  clear hs HR b1 b2 b3 b4 B2 B3
  generalize (w4.alloc (.cells #[.string ⟨#[110, 111, 45, 115, 116, 111, 114, 101]⟩, .string ⟨#[112, 114, 105, 118, 97, 116, 101]⟩, .string ⟨#[78, 79, 45, 83, 84, 79, 82, 69, 44, 32, 109, 97, 120, 45, 97, 103, 101, 61, 53]⟩, .string ⟨#[109, 97, 120, 45, 97, 103, 101, 61, 53, 44, 112, 114, 105, 118, 97, 116, 101]⟩] 9)) = w5 at *
  have hzz : w.heap.size + 2 ≤ w5.heap.size := by have := B5.size; omega
  have hk32 : (k.length + 1) * 32 ≤ 140737488355328 := by have := wt_len k; omega
  have hl32 : (l.length + 1) * 32 ≤ 140737488355328 := by have := wt_len l; omega
  obtain ⟨r0l, r0, r1, r2, r3⟩ := HQ0.out.below B5
  obtain ⟨x0l, x0, x1, x2, x3⟩ := HP0.out.below B5
  go_wp2_with fail
  clear r0 r1 r2 r3 x0 x1 x2 x3 r0l x0l hcell
  have Ca1 : Below w5.heap.size w5 (w5.alloc (.cells #[.int .i64 code, .string rs, (.slice Ak k.length ck), .string bd] 26)) := (Below.refl _ _).alloc (Nat.le_refl _) _
  have hza1 : (w5.alloc (.cells #[.int .i64 code, .string rs, (.slice Ak k.length ck), .string bd] 26)).heap.size = w5.heap.size + 1 := by simp
  have HB1 : Hid (B4 (w5.alloc (.cells #[.int .i64 code, .string rs, (.slice Ak k.length ck), .string bd] 26)) w5.heap.size (.int .i64 code) (.string rs) (.slice Ak k.length ck) (.string bd)) := by exact B4.new w5 _ _ _ _ _
  have fr1 : (w5.alloc (.cells #[.int .i64 code, .string rs, (.slice Ak k.length ck), .string bd] 26)).frozen? ⟨w5.heap.size, 2, none⟩ = false := by go_simp
  generalize (w5.alloc (.cells #[.int .i64 code, .string rs, (.slice Ak k.length ck), .string bd] 26)) = wa1 at *
  have Ba1 := B5.trans (Ca1.mono B5.size)
  have LK1 := HK.out.below Ba1
  refine (set_any _ k nCC s _ LK1.sl hk32 LK1.lims (by decide)).mono ?_
  rintro e wn1 ⟨⟨v1, rfl, o1⟩, b1⟩
  have Cn1 : Below w5.heap.size w5 wn1 := Ca1.trans (b1.mono Ca1.size)
  have Bn1 := B5.trans (Cn1.mono B5.size)
  obtain ⟨A1, c1, hv1⟩ := o1.slice
  subst hv1
  have HC1 := Lib.hid (HB1.out.below b1)
  have fs1 := (b1.frozen (p := ⟨w5.heap.size, 2, none⟩) (by show w5.heap.size < _; omega)).trans fr1
  have Cs1 : Below w5.heap.size w5 (wn1.setCell ⟨w5.heap.size, 2, none⟩ (.slice A1 (setF k nCC s).length c1)) := Cn1.setCell (p := ⟨w5.heap.size, 2, none⟩) (by show _ ≤ w5.heap.size; omega) _
  have HD1 := Lib.hid (HC1.out.set2 (.slice A1 (setF k nCC s).length c1))
  have HV1 := Lib.hid (SlR.of_owns (o1.setFar ⟨w5.heap.size, 2, none⟩ (.slice A1 (setF k nCC s).length c1) (fun e => by have q : wa1.heap.size ≤ w5.heap.size := (o1.lt _ e).1; omega)))
  obtain ⟨ol1, o01, o11, o21, o31⟩ := HC1.out
  obtain ⟨r0l, r0, r1, r2, r3⟩ := HQ0.out.below Bn1
  obtain ⟨x0l, x0, x1, x2, x3⟩ := HP0.out.below Bn1
  have na1 : w5.heap.size ≠ w.heap.size := by omega
  have na1' : w.heap.size ≠ w5.heap.size := by omega
  have nb1 : w5.heap.size ≠ w.heap.size + 1 := by omega
  have nb1' : w.heap.size + 1 ≠ w5.heap.size := by omega
  clear HB1 HC1 fr1 o1 b1 LK1
  go_wp2_with fail
  clear o01 o11 o21 o31 ol1 r0 r1 r2 r3 r0l x0 x1 x2 x3 x0l fs1 na1 na1' nb1 nb1'
  have hse1 : (wn1.setCell ⟨w5.heap.size, 2, none⟩ (.slice A1 (setF k nCC s).length c1)).heap.size = wn1.heap.size := by simp
  generalize wn1.setCell ⟨w5.heap.size, 2, none⟩ (.slice A1 (setF k nCC s).length c1) = ws1 at *
  have Bs1 := B5.trans (Cs1.mono B5.size)
  have hzs1 : w5.heap.size < ws1.heap.size := by have := Cs1.size; have := HD1.out.lt; omega
  have Ca2 : Below ws1.heap.size ws1 (ws1.alloc (.cells #[.string m, .string t, (.slice Al l.length cl), .string rb] 24)) := (Below.refl _ _).alloc (Nat.le_refl _) _
  have hza2 : (ws1.alloc (.cells #[.string m, .string t, (.slice Al l.length cl), .string rb] 24)).heap.size = ws1.heap.size + 1 := by simp
  have HB2 : Hid (B4 (ws1.alloc (.cells #[.string m, .string t, (.slice Al l.length cl), .string rb] 24)) wn1.heap.size (.string m) (.string t) (.slice Al l.length cl) (.string rb)) := by rw [← hse1]; exact B4.new ws1 _ _ _ _ _
  have fr2 : (ws1.alloc (.cells #[.string m, .string t, (.slice Al l.length cl), .string rb] 24)).frozen? ⟨wn1.heap.size, 2, none⟩ = false := by rw [← hse1]; go_simp
  generalize (ws1.alloc (.cells #[.string m, .string t, (.slice Al l.length cl), .string rb] 24)) = wa2 at *
  have Ba2 := Bs1.trans (Ca2.mono Bs1.size)
  have LK2 := HL.out.below Ba2
  refine (set_any _ l nCC ⟨#[110, 111, 45, 115, 116, 111, 114, 101]⟩ _ LK2.sl hl32 LK2.lims (by decide)).mono ?_
  rintro e wn2 ⟨⟨v2, rfl, o2⟩, b2⟩
  have Cn2 : Below ws1.heap.size ws1 wn2 := Ca2.trans (b2.mono Ca2.size)
  have Bn2 := Bs1.trans (Cn2.mono Bs1.size)
  obtain ⟨A2, c2, hv2⟩ := o2.slice
  subst hv2
  have HC2 := Lib.hid (HB2.out.below b2)
  have fs2 := (b2.frozen (p := ⟨wn1.heap.size, 2, none⟩) (by show wn1.heap.size < _; omega)).trans fr2
  have Cs2 : Below ws1.heap.size ws1 (wn2.setCell ⟨wn1.heap.size, 2, none⟩ (.slice A2 (setF l nCC ⟨#[110, 111, 45, 115, 116, 111, 114, 101]⟩).length c2)) := Cn2.setCell (p := ⟨wn1.heap.size, 2, none⟩) (by show _ ≤ wn1.heap.size; omega) _
  have HD2 := Lib.hid (HC2.out.set2 (.slice A2 (setF l nCC ⟨#[110, 111, 45, 115, 116, 111, 114, 101]⟩).length c2))
  have HV2 := Lib.hid (SlR.of_owns (o2.setFar ⟨wn1.heap.size, 2, none⟩ (.slice A2 (setF l nCC ⟨#[110, 111, 45, 115, 116, 111, 114, 101]⟩).length c2) (fun e => by have q : wa2.heap.size ≤ wn1.heap.size := (o2.lt _ e).1; omega)))
  obtain ⟨ol2, o02, o12, o22, o32⟩ := HC2.out
  obtain ⟨r0l, r0, r1, r2, r3⟩ := HQ0.out.below Bn2
  obtain ⟨x0l, x0, x1, x2, x3⟩ := HP0.out.below Bn2
  have na2 : wn1.heap.size ≠ w.heap.size := by omega
  have na2' : w.heap.size ≠ wn1.heap.size := by omega
  have nb2 : wn1.heap.size ≠ w.heap.size + 1 := by omega
  have nb2' : w.heap.size + 1 ≠ wn1.heap.size := by omega
  clear HB2 HC2 fr2 o2 b2 LK2
  go_wp2_with fail
  clear o02 o12 o22 o32 ol2 r0 r1 r2 r3 r0l x0 x1 x2 x3 x0l fs2 na2 na2' nb2 nb2'
  have hse2 : (wn2.setCell ⟨wn1.heap.size, 2, none⟩ (.slice A2 (setF l nCC ⟨#[110, 111, 45, 115, 116, 111, 114, 101]⟩).length c2)).heap.size = wn2.heap.size := by simp
  generalize wn2.setCell ⟨wn1.heap.size, 2, none⟩ (.slice A2 (setF l nCC ⟨#[110, 111, 45, 115, 116, 111, 114, 101]⟩).length c2) = ws2 at *
  have Bs2 := Bs1.trans (Cs2.mono Bs1.size)
  have hzs2 : wn1.heap.size < ws2.heap.size := by have := Cs2.size; have := HD2.out.lt; omega
  have Ca3 : Below ws2.heap.size ws2 (ws2.alloc (.cells #[.int .i64 code, .string rs, (.slice Ak k.length ck), .string bd] 26)) := (Below.refl _ _).alloc (Nat.le_refl _) _
  have hza3 : (ws2.alloc (.cells #[.int .i64 code, .string rs, (.slice Ak k.length ck), .string bd] 26)).heap.size = ws2.heap.size + 1 := by simp
  have HB3 : Hid (B4 (ws2.alloc (.cells #[.int .i64 code, .string rs, (.slice Ak k.length ck), .string bd] 26)) wn2.heap.size (.int .i64 code) (.string rs) (.slice Ak k.length ck) (.string bd)) := by rw [← hse2]; exact B4.new ws2 _ _ _ _ _
  have fr3 : (ws2.alloc (.cells #[.int .i64 code, .string rs, (.slice Ak k.length ck), .string bd] 26)).frozen? ⟨wn2.heap.size, 2, none⟩ = false := by rw [← hse2]; go_simp
  generalize (ws2.alloc (.cells #[.int .i64 code, .string rs, (.slice Ak k.length ck), .string bd] 26)) = wa3 at *
  have Ba3 := Bs2.trans (Ca3.mono Bs2.size)
  have LK3 := HK.out.below Ba3
  refine (set_any _ k Vy.nVary ⟨#[42]⟩ _ LK3.sl hk32 LK3.lims (by decide)).mono ?_
  rintro e wn3 ⟨⟨v3, rfl, o3⟩, b3⟩
  have Cn3 : Below ws2.heap.size ws2 wn3 := Ca3.trans (b3.mono Ca3.size)
  have Bn3 := Bs2.trans (Cn3.mono Bs2.size)
  obtain ⟨A3, c3, hv3⟩ := o3.slice
  subst hv3
  have HC3 := Lib.hid (HB3.out.below b3)
  have fs3 := (b3.frozen (p := ⟨wn2.heap.size, 2, none⟩) (by show wn2.heap.size < _; omega)).trans fr3
  have Cs3 : Below ws2.heap.size ws2 (wn3.setCell ⟨wn2.heap.size, 2, none⟩ (.slice A3 (setF k Vy.nVary ⟨#[42]⟩).length c3)) := Cn3.setCell (p := ⟨wn2.heap.size, 2, none⟩) (by show _ ≤ wn2.heap.size; omega) _
  have HD3 := Lib.hid (HC3.out.set2 (.slice A3 (setF k Vy.nVary ⟨#[42]⟩).length c3))
  have HV3 := Lib.hid (SlR.of_owns (o3.setFar ⟨wn2.heap.size, 2, none⟩ (.slice A3 (setF k Vy.nVary ⟨#[42]⟩).length c3) (fun e => by have q : wa3.heap.size ≤ wn2.heap.size := (o3.lt _ e).1; omega)))
  obtain ⟨ol3, o03, o13, o23, o33⟩ := HC3.out
  obtain ⟨r0l, r0, r1, r2, r3⟩ := HQ0.out.below Bn3
  obtain ⟨x0l, x0, x1, x2, x3⟩ := HP0.out.below Bn3
  obtain ⟨yl, y0, y1, y2, y3⟩ := HD1.out.below (belT Cs2 Cn3)
  have na3 : wn2.heap.size ≠ w.heap.size := by omega
  have na3' : w.heap.size ≠ wn2.heap.size := by omega
  have nb3 : wn2.heap.size ≠ w.heap.size + 1 := by omega
  have nb3' : w.heap.size + 1 ≠ wn2.heap.size := by omega
  have ny3 : wn2.heap.size ≠ w5.heap.size := by omega
  have ny3' : w5.heap.size ≠ wn2.heap.size := by omega
  clear HB3 HC3 fr3 o3 b3 LK3
  go_wp2_with fail
  clear o03 o13 o23 o33 ol3 r0 r1 r2 r3 r0l x0 x1 x2 x3 x0l fs3 y0 y1 y2 y3 yl na3 na3' nb3 nb3' ny3 ny3'
  have hse3 : (wn3.setCell ⟨wn2.heap.size, 2, none⟩ (.slice A3 (setF k Vy.nVary ⟨#[42]⟩).length c3)).heap.size = wn3.heap.size := by simp
  generalize wn3.setCell ⟨wn2.heap.size, 2, none⟩ (.slice A3 (setF k Vy.nVary ⟨#[42]⟩).length c3) = ws3 at *
  have Bs3 := Bs2.trans (Cs3.mono Bs2.size)
  have hzs3 : wn2.heap.size < ws3.heap.size := by have := Cs3.size; have := HD3.out.lt; omega
  have HDy := Lib.hid ((HD1.out.below Cs2).below Cs3)
  have HDq := Lib.hid (HD2.out.below Cs3)
  have HVy := Lib.hid ((HV1.out.below Cs2).below Cs3)
  have HVq := Lib.hid (HV2.out.below Cs3)
  have hw1 : wt (setF k nCC s) ≤ 4398046511104 := by have := wt_set k nCC s; have h2 : nCC.size = 13 := rfl; omega
  have hw2 : wt (setF l nCC ⟨#[110, 111, 45, 115, 116, 111, 114, 101]⟩) ≤ 4398046511104 := by have := wt_set l nCC ⟨#[110, 111, 45, 115, 116, 111, 114, 101]⟩; have h2 : nCC.size = 13 := rfl; have h3 : (⟨#[110, 111, 45, 115, 116, 111, 114, 101]⟩ : ByteArray).size = 8 := rfl; omega
  have hw3 : wt (setF k Vy.nVary ⟨#[42]⟩) ≤ 4398046511104 := by have := wt_set k Vy.nVary ⟨#[42]⟩; have h2 : Vy.nVary.size = 4 := rfl; have h3 : (⟨#[42]⟩ : ByteArray).size = 1 := rfl; omega
  clear HD1 HD2 HV1 HV2 hk32 hl32 hzs1 hzs2 hzs3
  have HLs := Lib.hid (HL.out.below Bs3)
  have HKs := Lib.hid (HK.out.below Bs3)
  have HQs := Lib.hid (HQ0.out.below Bs3)
  have HPs := Lib.hid (HP0.out.below Bs3)
  have BS := b0.trans (Bs3.mono (by omega))
  refine (HMAY.out m t _ rb l code rs _ bd (setF k nCC s) _ HLs.out ⟨HVy.out, hw1⟩).mono ?_
  rintro e u1 ⟨rfl, d1⟩
  rw [HF1.out]
  obtain ⟨qql, qq0, qq1, qq2, qq3⟩ := HDq.out.below d1
  obtain ⟨xxl, xx0, xx1, xx2, xx3⟩ := HPs.out.below d1
  go_wp2_with fail
  clear qql qq0 qq1 qq2 qq3 xxl xx0 xx1 xx2 xx3
  refine (HMAY.out m t _ rb (setF l nCC ⟨#[110, 111, 45, 115, 116, 111, 114, 101]⟩) code rs _ bd k _ ⟨HVq.out.below d1, hw2⟩ (HKs.out.below d1)).mono ?_
  rintro e u2 ⟨rfl, d2⟩
  rw [HF2.out]
  have d02 := belT d1 d2
  obtain ⟨qql, qq0, qq1, qq2, qq3⟩ := HQs.out.below d02
  obtain ⟨xxl, xx0, xx1, xx2, xx3⟩ := HD3.out.below d02
  go_wp2_with fail
  clear qql qq0 qq1 qq2 qq3 xxl xx0 xx1 xx2 xx3
  refine (HMAY.out m t _ rb l code rs _ bd (setF k Vy.nVary ⟨#[42]⟩) _ (HLs.out.below d02) ⟨HV3.out.below d02, hw3⟩).mono ?_
  rintro e u3 ⟨rfl, d3⟩
  rw [HF3.out]
  have d03 := belT d02 d3
  obtain ⟨qql, qq0, qq1, qq2, qq3⟩ := HQs.out.below d03
  obtain ⟨xxl, xx0, xx1, xx2, xx3⟩ := HPs.out.below d03
  cases hm : (m.toList == [71, 69, 84])
  · go_wp2_with fail
    refine (HMAY.out m t _ rb l code rs _ bd k _ (HLs.out.below d03) (HKs.out.below d03)).mono ?_
    rintro e u4 ⟨rfl, d4⟩
    rw [HF4.out hm]
    go_wp2_with fail
    go_ret
    exact ⟨rfl, belT (belT BS d03) d4⟩
  · go_wp2_with fail
    go_ret
    exact ⟨rfl, belT BS d03⟩
end Dp
theorem policyNever_walk (m t : ByteArray) (rf : Value) (rb : ByteArray) (l : List (ByteArray × ByteArray)) (code : Int) (rs : ByteArray) (u : Value) (bd : ByteArray) (k : List (ByteArray × ByteArray)) (which : Int) (w : World) (hl : SlR w e_ss rf l) (hls : (l.map (fun d => d.1.size + d.2.size + 2)).sum ≤ 1048576) (hk : SlR w e_ss u k) (hks : (k.map (fun d => d.1.size + d.2.size + 2)).sum ≤ 1048576) (hw : (Lit.int .i64 which).wf = true) :
    Calls Try.prog 3 #[Dp.rqv m t rf rb, Dp.rsv code rs u bd, .int .i64 which] w fun e w' => e = .returned (.bool true) ∧ Below w.heap.size w w' :=
  Dp.policyNever_core m t rf rb l code rs u bd k which w ⟨hl, Nat.le_trans hls (by decide)⟩ ⟨hk, Nat.le_trans hks (by decide)⟩ hls hks (wide_of hw)
end Go.Proofs.Ytiijgbgknolmcaa
