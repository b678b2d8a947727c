/- RowTouched. -/
import Derived.Test.YtnobcehiahcfkaaRowL
namespace Go.Proofs.Ytnobcehiahcfkaa
set_option maxRecDepth 20000
open Go.RowKit Go.Shelf
def keysOf (ns : List Nd) : List ByteArray := ns.map (·.2.1)
def noKey (k : ByteArray) (ks : List ByteArray) : List ByteArray := ks.filter fun x => !decide (x = k)
theorem keys_without (ns : List Nd) (k : ByteArray) : keysOf (without ns k) = noKey k (keysOf ns) := by
  unfold keysOf without noKey
  rw [List.filter_map]
  rfl
theorem noKey_snoc (k x : ByteArray) (l : List ByteArray) : noKey k (l ++ [x]) = noKey k l ++ (if x = k then [] else [x]) := by
  unfold noKey
  rw [List.filter_append]
  congr 1
  by_cases h : x = k <;> simp [h]
def anyK (k : ByteArray) (l : List ByteArray) : Bool := l.any fun x => decide (x = k)
theorem anyK_snoc (k x : ByteArray) (l : List ByteArray) : anyK k (l ++ [x]) = (anyK k l || decide (x = k)) := by simp [anyK]
theorem anyK_none {k : ByteArray} {ns : List Nd} (h : ∀ x ∈ ns, x.2.1 ≠ k) : anyK k (keysOf ns) = false := by
  unfold anyK keysOf
  rw [List.any_eq_false]
  intro x hx
  obtain ⟨y, hy, rfl⟩ := List.mem_map.1 hx
  simpa using h y hy
theorem anyK_some (l r : List Nd) (b : Nat) (k : ByteArray) (s : Int) : anyK k (keysOf (l ++ (b, k, s) :: r)) = true := by
  simp [anyK, keysOf]
theorem noKey_none {k : ByteArray} {ns : List Nd} (h : ∀ x ∈ ns, x.2.1 ≠ k) : noKey k (keysOf ns) = keysOf ns := by
  rw [← keys_without, without_none h]
theorem beqL_true {x y : ByteArray} (h : x = y) : (x.toList == y.toList) = true := by rw [h]; simp
theorem beqL_false {x y : ByteArray} (h : x ≠ y) : (x.toList == y.toList) = false := by
  rw [beq_eq_false_iff_ne]; intro e; apply h; apply sl_inj; rw [← ba_toList, ← ba_toList, e]
set_option maxHeartbeats 8000000 in
theorem rowTouched_walk (v : Value) (xs : List Stp) (key : ByteArray) (w : World) (h : SlR w e_st v xs) (hl : xs.length ≤ maxLen) (hx : ∀ x ∈ xs, Wide x.k ∧ Wide x.a ∧ Wide x.b ∧ x.s.size ≤ maxLen ∧ x.t.size ≤ maxLen) (hk : key.size ≤ 140737488351232) :
    Calls Try.prog 8 #[v, .string key] w fun e w' => e = .returned (.bool true) ∧ Below w.heap.size w w' := by
  have HR0 := Lib.hid (rowed_any 300 v xs w (by decide) (by decide) h hl hx)
  have hkz : key.size ≤ maxLen := by simp only [maxLen]; omega
  obtain ⟨A, cp, rfl, hc⟩ := h.form
  clear h hl hx
  go_enter Try.func8, Try.ntmps8
  go_wp2_with fail
  refine HR0.out.mono ?_
  rintro e w1 ⟨p, c, mb, ns, rfl, hr1, b1⟩
  have HR1 := Lib.hid hr1
  clear hr1 HR0
  go_wp2_with fail
  refine (keys_any _ p c mb 300 ns _ HR1.out).mono ?_
  rintro e w2 ⟨vk, rfl, ok, b2⟩
  have hr2 := HR1.out.below b2
  have hsl := SlR.of_owns ok
  have B2 := b1.trans (b2.mono b1.size)
  have hlen : (keysOf ns).length ≤ 1000000 := by unfold keysOf; rw [List.length_map]; exact hr2.len
  have HRS2 := Lib.hid hr2
  have HT := Lib.hid (fun hn => SlR.texts (xs := keysOf ns) hsl hn)
  obtain ⟨Ak, ck, rfl, hck⟩ := SlR.form (xs := keysOf ns) hsl
  have hfl : (ns.map (·.2.1)).length = (keysOf ns).length := rfl
  clear hr2 hsl ok HR1 b2 b1
  obtain ⟨n2, hn2⟩ : ∃ n2, n2 = w2.heap.size := ⟨_, rfl⟩
  have HN2 := Lib.hid hn2
  have hHn : w.heap.size ≤ n2 := by rw [hn2]; exact B2.size
  obtain ⟨ks, hks⟩ : ∃ ks, keysOf ns = ks := ⟨_, rfl⟩
  rw [hks] at hlen HT hck ⊢
  have HKS := Lib.hid hks
  clear hks
  go_wp2_with fail
  go_loopw [6, 7, 18] (fun rv bv iv wr => ∃ k : Nat, iv = .int .i64 (k : Int) ∧ k ≤ ks.length ∧ bv = .bool (anyK key (ks.take k)) ∧ Owns wr n2 9 1 es rv (noKey key (ks.take k)) ∧ Below n2 w2 wr) (fun _ _ iv _ => ks.length - (intOf iv).toNat)
  case atStart => exact ⟨0, rfl, Nat.zero_le _, by simp [anyK], Owns.nil .., by rw [hn2]; exact Below.refl _ _⟩
  case round =>
    obtain ⟨k, rfl, hk', rfl, how, hbel⟩ := hrel
    by_cases hlt : k < ks.length
    · obtain ⟨bb, off, c3, hv2, hc3, hbb, hcell⟩ := HT.out (by omega)
      injection hv2 with g1 g2 g3
      subst g1 g3
      have c0 := (hbel.cell (p := ⟨bb, off + k, none⟩) (by rw [HN2.out]; exact hbb)).trans (hcell k hlt)
      have HTK : Hid (ks.take (k + 1) = ks.take k ++ [ks[k]]) := by show _ = _; rw [List.take_add_one, List.getElem?_eq_getElem hlt]; rfl
      clear hcell g2
      generalize ks[k] = x at *
      by_cases hxk : x = key
      · have ht := beqL_true hxk
        go_wp2_with fail
        refine ⟨⟨k + 1, by simp, by omega, ?_, ?_, hbel⟩, by simp only [intOf]; omega⟩
        · rw [HTK.out, anyK_snoc]; simp [hxk]
        · rw [HTK.out, noKey_snoc, if_pos hxk, List.append_nil]; exact how
      · have ht := beqL_false hxk
        have hsz : (noKey key (ks.take k)).length ≤ 1000000 := Nat.le_trans (List.length_filter_le _ _) (by rw [List.length_take]; omega)
        have HO := Lib.hid how
        clear how
        go_wp2_with (at_builtin; go_must (refine wpList_append_slr rfl (.tmp 25) (.tmp 27) _ rfl n2 9 (.string ByteArray.empty) 1 16 es Try.underlying24 stringInfo rfl (by decide) (fun _ => rfl) _ (noKey key (ks.take k)) rfl (HO.out.alloc _) _ [x] rfl (SlR.lit wr [.string x] _ [x] rfl) (es_one _) (by simp only [maxLen, List.length_cons, List.length_nil]; omega) (by simp only [List.length_cons, List.length_nil]; omega) (by have := hbel.size; have := HN2.out; simp; omega) ?_); intro v' w3 hown' hgrow)
        refine ⟨⟨k + 1, by simp, by omega, ?_, ?_, ?_⟩, by simp only [intOf]; omega⟩
        · rw [HTK.out, anyK_snoc]; simp [hxk]
        · rw [HTK.out, noKey_snoc, if_neg hxk]; exact hown'
        · exact (hbel.alloc (by have := hbel.size; have := HN2.out; omega) _).grown hgrow (by have := hbel.size; have := HN2.out; simp; omega) (fun j hj => (HO.out.lt j hj).1)
    · obtain rfl : k = ks.length := by omega
      have htk : ks.take ks.length = ks := List.take_of_length_le (Nat.le_refl _)
      have hrw : RowS wr w.heap.size p 300 c mb ns := HRS2.out.below (HN2.out ▸ hbel)
      rw [htk] at how ⊢
      have HB := Lib.hid (B2.trans (hbel.mono hHn))
      have HO := Lib.hid how
      have HRW := Lib.hid hrw
      have HNW : Hid (n2 ≤ wr.heap.size) := by have := hbel.size; have := HN2.out; show _ ≤ _; omega
      clear htk how hrw hbel hk' hlt
      rcases find_split ns key with hno | ⟨l, b, s, r, rfl⟩
      · have hany : anyK key ks = false := by rw [← HKS.out]; exact anyK_none hno
        have hnk : noKey key ks = ks := by rw [← HKS.out]; exact noKey_none hno
        have HNO := Lib.hid hno
        rw [hnk] at HO
        rw [hany]
        clear hno hany hnk
        go_wp2_with fail
        refine (usedR_any _ p c mb 300 ns _ HRW.out).mono ?_
        rintro e w3 ⟨rfl, rfl⟩
        go_wp2_with fail
        refine (touch_none _ p c mb 300 ns key _ HRW.out hkz HNO.out).mono ?_
        rintro e w3 ⟨rfl, rfl⟩
        go_wp2_with fail
        refine (usedR_any _ p c mb 300 ns _ HRW.out).mono ?_
        rintro e w3 ⟨rfl, rfl⟩
        go_wp2_with fail
        refine (keys_any _ p c mb 300 ns _ HRW.out).mono ?_
        rintro e w4 ⟨vk, rfl, ok, b4⟩
        have HK4 := Lib.hid (SlR.of_owns ok)
        have HO4 := Lib.hid (SlR.of_owns (HO.out.below b4))
        have HR4 := Lib.hid (HRW.out.below b4)
        have HB4 := Lib.hid (HB.out.trans (b4.mono HB.out.size))
        clear ok b4
        go_wp2_with fail
        refine (eqStr_any _ _ (keysOf ns) ks _ HK4.out HO4.out (by rw [HKS.out]; omega) (by omega)).mono ?_
        rintro e w5 ⟨rfl, rfl⟩
        have hst : SameTexts (keysOf ns) ks = true := by rw [HKS.out]; simp [SameTexts]
        rw [hst]
        clear hst
        go_wp2_with fail
        refine (drop_none _ p c mb 300 ns key _ HR4.out hkz HNO.out).mono ?_
        rintro e w5 ⟨rfl, rfl⟩
        go_wp2_with fail
        refine (drop_none _ p c mb 300 ns key _ HR4.out hkz HNO.out).mono ?_
        rintro e w5 ⟨rfl, rfl⟩
        go_wp2_with fail
        go_ret
        exact ⟨rfl, HB4.out⟩
      · have hany : anyK key ks = true := by rw [← HKS.out]; exact anyK_some _ _ _ _ _
        have hnk : noKey key ks = keysOf (l ++ r) := by rw [← HKS.out, ← keys_without, without_some HRW.out.ch.kd]
        have hue : usedOf (l ++ r ++ [(0, key, s)]) = usedOf (l ++ (b, key, s) :: r) := by rw [usedOf_app, usedOf_app, usedOf_app, usedOf_cons, usedOf_cons]; simp [usedOf]; omega
        have hnr := not_key HRW.out.ch.kd
        have HNR := Lib.hid hnr
        rw [hnk] at HO
        rw [hany]
        clear hany hnk hnr
        go_wp2_with fail
        refine (usedR_any _ p c mb 300 _ _ HRW.out).mono ?_
        rintro e w3 ⟨rfl, rfl⟩
        go_wp2_with fail
        refine (touch_some _ p c mb b 300 l r key s _ HRW.out).mono ?_
        rintro e w3 ⟨rfl, ⟨b', hr3⟩, rf3⟩
        have hu3 : usedOf (l ++ r ++ [(b', key, s)]) = usedOf (l ++ (b, key, s) :: r) := by rw [← hue]; simp [usedOf_app, usedOf_cons]
        have HR3 := Lib.hid hr3
        have HO3 := Lib.hid (HO.out.rf rf3 (by decide))
        have HB3 := Lib.hid (HB.out.trans rf3.bel)
        have hw3 : n2 ≤ w3.heap.size := Nat.le_trans HNW.out rf3.size
        clear hr3 rf3 hue
        go_wp2_with fail
        refine (usedR_any _ p c mb 300 _ _ HR3.out).mono ?_
        rintro e w4 ⟨rfl, rfl⟩
        rw [hu3]
        clear hu3
        have hl3 : (keysOf (l ++ r)).length ≤ 1000000 := by have := HR3.out.len; unfold keysOf; rw [List.length_map]; simp only [List.length_append, List.length_cons, List.length_nil] at this ⊢; omega
        have hoA := HO3.out.alloc (.cells #[.string key] 9)
        go_wp2_with (at_builtin; go_must (refine wpList_append_slr rfl (.tmp 44) (.tmp 46) _ rfl n2 9 (.string ByteArray.empty) 1 16 es Try.underlying24 stringInfo rfl (by decide) (fun _ => rfl) _ (keysOf (l ++ r)) rfl (HO3.out.alloc _) _ [key] rfl (SlR.lit w3 [.string key] _ [key] rfl) (es_one _) (by simp only [maxLen, List.length_cons, List.length_nil]; omega) (by simp only [List.length_cons, List.length_nil]; omega) (by simp; omega) ?_); intro v' w4 hown' hgrow)
        have hRd := (HR3.out.alloc (.cells #[.string key] 9)).keptO hgrow (fun j hj => by
          obtain ⟨g, cap, cur, hv, _, hh, _⟩ := hoA.2.resolve_left (fun h => by rw [h.1] at hj; cases hj)
          have hj' : u6.ownBlock = some j := hj
          rw [hv] at hj'
          have hgj : g = j := by simpa [Value.ownBlock] using hj'
          rw [← hgj]
          exact ⟨_, hh, rfl⟩)
        have hg0 : Below n2 w3 w4 := ((Below.refl _ _).alloc hw3 _).grown hgrow (by simp; omega) (fun j hj => (HO3.out.lt j hj).1)
        have HB4 := Lib.hid (HB3.out.trans (hg0.mono hHn))
        have HR4 := Lib.hid hRd
        have HO4 := Lib.hid hown'
        clear hg0 hRd hoA hown' hgrow HR3 HO3 HB3 hw3
        go_wp2_with fail
        refine (keys_any _ p c mb 300 _ _ HR4.out).mono ?_
        rintro e w5 ⟨vk, rfl, ok, b5⟩
        have HK5 := Lib.hid (SlR.of_owns ok)
        have HO5 := Lib.hid (SlR.of_owns (HO4.out.below b5))
        have HR5 := Lib.hid (HR4.out.below b5)
        have HB5 := Lib.hid (HB4.out.trans (b5.mono HB4.out.size))
        clear ok b5 HR4 HO4 HB4
        go_wp2_with fail
        refine (eqStr_any _ _ (keysOf (l ++ r ++ [(b', key, s)])) (keysOf (l ++ r) ++ [key]) _ HK5.out HO5.out (by have := HR5.out.len; unfold keysOf; rw [List.length_map]; omega) (by simp only [List.length_append, List.length_cons, List.length_nil]; omega)).mono ?_
        rintro e w6 ⟨rfl, rfl⟩
        have hst : SameTexts (keysOf (l ++ r ++ [(b', key, s)])) (keysOf (l ++ r) ++ [key]) = true := by simp [SameTexts, keysOf]
        rw [hst]
        clear hst
        go_wp2_with fail
        refine (drop_some _ p c mb b' 300 (l ++ r) [] key s _ HR5.out).mono ?_
        rintro e w6 ⟨rfl, hr6, rf6, _⟩
        rw [List.append_nil] at hr6
        have HR6 := Lib.hid hr6
        have HB6 := Lib.hid (HB5.out.trans rf6.bel)
        clear hr6 rf6
        go_wp2_with fail
        refine (drop_none _ p c mb 300 (l ++ r) key _ HR6.out hkz HNR.out).mono ?_
        rintro e w7 ⟨rfl, rfl⟩
        go_wp2_with fail
        go_ret
        exact ⟨rfl, HB6.out⟩
end Go.Proofs.Ytnobcehiahcfkaa
