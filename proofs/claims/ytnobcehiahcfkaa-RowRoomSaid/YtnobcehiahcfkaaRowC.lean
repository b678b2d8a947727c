/- Row: New, Drop, Touch. -/
import Derived.Test.YtnobcehiahcfkaaRowP
namespace Go.Proofs.Ytnobcehiahcfkaa
set_option maxRecDepth 20000
open Go.RowKit
def usedOf (ns : List Nd) : Int := (ns.map (·.2.2)).sum
theorem usedOf_app (a b : List Nd) : usedOf (a ++ b) = usedOf a + usedOf b := by simp [usedOf]
theorem usedOf_cons (x : Nd) (b : List Nd) : usedOf (x :: b) = x.2.2 + usedOf b := by simp [usedOf]
theorem usedOf_len {ns : List Nd} (h : ∀ x ∈ ns, 1 ≤ x.2.2) : (ns.length : Int) ≤ usedOf ns := by
  induction ns with
  | nil => simp [usedOf]
  | cons x ns ih =>
    rw [usedOf_cons, List.length_cons]
    have h1 := h x (by simp)
    have h2 := ih (fun y hy => h y (by simp [hy]))
    omega
/-- A row: its block, its chain. -/
structure RowS (w : World) (n0 p : Nat) (room : Int) (c mb : Nat) (ns : List Nd) : Prop where
  blk : Blk w p 95 #[.int .i64 room, .int .i64 (usedOf ns), ptr c]
  p0 : n0 ≤ p
  ch : Chn w n0 c mb ns
  rm : 1 ≤ room ∧ room ≤ 1000000
  sz : ∀ x ∈ ns, 1 ≤ x.2.2
  us : usedOf ns ≤ room
  ks : ∀ x ∈ ns, x.2.1.size ≤ maxLen
abbrev RX : List TypeId := [125, 122]
abbrev RY : List TypeId := [95, 125, 122]
theorem RF.toY {n0 : Nat} {w w' : World} (h : RF RX n0 w w') : RF RY n0 w w' := h.mono (fun t ht => by
  simp only [List.contains_cons, List.contains_nil, Bool.or_false, Bool.or_eq_true] at ht ⊢
  exact .inr ht)
section
variable {w w' : World} {n0 p c mb : Nat} {room : Int} {ns : List Nd}
theorem RowS.keptT {row : Option Nat} (h : RowS w n0 p room c mb ns) (hg : w.grownBy w' row) (hrow : ∀ k, row = some k → ∃ cs t fr, w.heap[k]? = some (.cells cs t fr) ∧ t ≠ 95 ∧ t ≠ 125 ∧ t ≠ 122) : RowS w' n0 p room c mb ns :=
  ⟨Blk.keptR h.blk hg (fun e => by
    obtain ⟨cs, t, fr, hh, h1, _⟩ := hrow p e.symm
    have hb := h.blk
    unfold Blk at hb
    rw [hh] at hb
    injection hb with hb
    injection hb with _ hb
    exact h1 hb), h.p0, h.ch.keptT hg (fun k hk => by obtain ⟨cs, t, fr, hh, _, h2⟩ := hrow k hk; exact ⟨cs, t, fr, hh, h2⟩), h.rm, h.sz, h.us, h.ks⟩
theorem RowS.below (h : RowS w n0 p room c mb ns) (hb : Below w.heap.size w w') : RowS w' n0 p room c mb ns := ⟨h.blk.below hb h.blk.lt, h.p0, h.ch.below hb, h.rm, h.sz, h.us, h.ks⟩
theorem RowS.drew (h : RowS w n0 p room c mb ns) : RowS w.drew n0 p room c mb ns := ⟨h.blk.drew, h.p0, h.ch.drew, h.rm, h.sz, h.us, h.ks⟩
theorem RowS.alloc (h : RowS w n0 p room c mb ns) (o : Obj) : RowS (w.alloc o) n0 p room c mb ns := ⟨h.blk.alloc o, h.p0, h.ch.alloc o, h.rm, h.sz, h.us, h.ks⟩
theorem RowS.n0w (h : RowS w n0 p room c mb ns) : n0 ≤ w.heap.size := Nat.le_trans h.p0 (Nat.le_of_lt h.blk.lt)
theorem RowS.len (h : RowS w n0 p room c mb ns) : ns.length ≤ 1000000 := by
  have h1 := usedOf_len h.sz
  have h2 := h.us
  have h3 := h.rm.2
  omega
end
set_option maxHeartbeats 1000000 in
theorem drop_some (n0 p c mb b : Nat) (room : Int) (l r : List Nd) (k : ByteArray) (s : Int) (w : World) (h : RowS w n0 p room c mb (l ++ (b, k, s) :: r)) :
    Calls Try.prog 30 #[ptr p, .string k] w fun e w' => e = .returned (.int .i64 0) ∧ RowS w' n0 p room c mb (l ++ r) ∧ RF RY n0 w w' ∧ w'.cell? ⟨b, 3, none⟩ = w.cell? ⟨b, 3, none⟩ := by
  have hks := h.ks (b, k, s) (by simp)
  have p2 := h.blk.cell 2
  have hs1 : 1 ≤ s := h.sz (b, k, s) (by simp)
  have hul := usedOf_len h.sz
  have hus := h.us
  have hrm := h.rm.2
  have hue : usedOf (l ++ (b, k, s) :: r) = usedOf (l ++ r) + s := by rw [usedOf_app, usedOf_app, usedOf_cons]; dsimp only; omega
  have hul2 : 0 ≤ usedOf (l ++ r) := by
    have := usedOf_len (ns := l ++ r) (fun x hx => h.sz x (by
      rcases List.mem_append.1 hx with hx | hx
      · exact List.mem_append_left _ hx
      · exact List.mem_append_right _ (List.mem_cons_of_mem _ hx)))
    omega
  have hwr : IntKind.i64.wrap (usedOf (l ++ (b, k, s) :: r) - s) = usedOf (l ++ r) := by rw [IntKind.wrap_i64]; omega
  have HW := Lib.hid hwr
  have HUE := Lib.hid hue
  have H := Lib.hid h
  clear hwr hue h
  go_enter Try.func30, Try.ntmps30
  go_wp2_with fail
  refine (take_some n0 c mb b l r k s w H.out.ch hks).mono ?_
  rintro e w1 ⟨rfl, hc1, rf1, hb3⟩
  have hP1 := H.out.blk.rf rf1 (by decide)
  have p1 := hP1.cell 1
  have f1 := hP1.frozen 1
  have hnb : p ≠ b := by
    intro e
    obtain ⟨_, _, hb⟩ := H.out.ch.node (b, k, s) (by simp)
    have hbl := H.out.blk
    rw [e] at hbl
    unfold Blk at hb hbl
    rw [hbl] at hb
    injection hb with hb
    injection hb with _ hb
    revert hb
    decide
  have hwr := HW.out
  have hP2 := hP1.set_ 1 (.int .i64 (usedOf (l ++ r)))
  have hC2 : Chn (w1.setCell ⟨p, 1, none⟩ (.int .i64 (usedOf (l ++ r)))) n0 c mb (l ++ r) := hc1.keptT (row := some p) ⟨rfl, rfl, rfl, by simp [World.setCell], fun k _ hne => Below.heap_setCell _ _ _ _ (fun e => hne (by rw [e]))⟩ (fun j hj => by cases hj; exact ⟨_, _, _, hP1, by decide, by decide⟩)
  have hR2 : RF RY n0 w (w1.setCell ⟨p, 1, none⟩ (.int .i64 (usedOf (l ++ r)))) := rf1.toY.set_ hP1 H.out.p0 (by decide) _
  have hb32 : (w1.setCell ⟨p, 1, none⟩ (.int .i64 (usedOf (l ++ r)))).cell? ⟨b, 3, none⟩ = w.cell? ⟨b, 3, none⟩ := (cell_set_ne w1 b p 1 3 _ (.inl (Ne.symm hnb))).trans hb3
  have HX : Hid (RowS (w1.setCell ⟨p, 1, none⟩ (.int .i64 (usedOf (l ++ r)))) n0 p room c mb (l ++ r) ∧ RF RY n0 w (w1.setCell ⟨p, 1, none⟩ (.int .i64 (usedOf (l ++ r)))) ∧ (w1.setCell ⟨p, 1, none⟩ (.int .i64 (usedOf (l ++ r)))).cell? ⟨b, 3, none⟩ = w.cell? ⟨b, 3, none⟩) := by
    have hsub : ∀ x ∈ l ++ r, x ∈ l ++ (b, k, s) :: r := fun x hx => by
      rcases List.mem_append.1 hx with hx | hx
      · exact List.mem_append_left _ hx
      · exact List.mem_append_right _ (List.mem_cons_of_mem _ hx)
    exact ⟨⟨hP2, H.out.p0, hC2, H.out.rm, fun x hx => H.out.sz x (hsub x hx), by have := H.out.us; have := HUE.out; omega, fun x hx => H.out.ks x (hsub x hx)⟩, hR2, hb32⟩
  clear hb3 hb32 hR2 hC2 hP2 hnb hP1 rf1 hc1 hul hus hrm hul2 p2
  generalize usedOf (l ++ r) = U at *
  generalize usedOf (l ++ (b, k, s) :: r) = U1 at *
  go_wp2_with fail
  go_ret
  exact ⟨rfl, HX.out⟩
theorem drop_none (n0 p c mb : Nat) (room : Int) (ns : List Nd) (k : ByteArray) (w : World) (h : RowS w n0 p room c mb ns) (hks : k.size ≤ maxLen) (hk : ∀ x ∈ ns, x.2.1 ≠ k) :
    Calls Try.prog 30 #[ptr p, .string k] w fun e w' => e = .returned (.int .i64 4) ∧ w = w' := by
  have p2 := h.blk.cell 2
  have H := Lib.hid h
  clear h
  go_enter Try.func30, Try.ntmps30
  go_wp2_with fail
  refine (take_none n0 c mb ns k w H.out.ch hks hk).mono ?_
  rintro e w1 ⟨rfl, rfl⟩
  go_wp2_with fail
  go_ret
  exact ⟨rfl, rfl⟩
theorem touch_none (n0 p c mb : Nat) (room : Int) (ns : List Nd) (k : ByteArray) (w : World) (h : RowS w n0 p room c mb ns) (hks : k.size ≤ maxLen) (hk : ∀ x ∈ ns, x.2.1 ≠ k) :
    Calls Try.prog 29 #[ptr p, .string k] w fun e w' => e = .returned (.bool false) ∧ w = w' := by
  have p2 := h.blk.cell 2
  have H := Lib.hid h
  clear h
  go_enter Try.func29, Try.ntmps29
  go_wp2_with fail
  refine (take_none n0 c mb ns k w H.out.ch hks hk).mono ?_
  rintro e w1 ⟨rfl, rfl⟩
  go_wp2_with fail
  go_ret
  exact ⟨rfl, rfl⟩
theorem not_key {l r : List Nd} {b : Nat} {k : ByteArray} {s : Int} (h : ((l ++ (b, k, s) :: r).map (·.2.1)).Nodup) : ∀ x ∈ l ++ r, x.2.1 ≠ k := by
  rw [List.map_append, List.map_cons, List.nodup_append] at h
  obtain ⟨h1, h2, h3⟩ := h
  intro y hy
  rcases List.mem_append.1 hy with hy | hy
  · exact h3 y.2.1 (List.mem_map.2 ⟨y, hy, rfl⟩) k (by simp)
  · intro e
    exact (List.nodup_cons.1 h2).1 (List.mem_map.2 ⟨y, hy, e⟩)
set_option maxHeartbeats 1000000 in
theorem touch_some (n0 p c mb b : Nat) (room : Int) (l r : List Nd) (k : ByteArray) (s : Int) (w : World) (h : RowS w n0 p room c mb (l ++ (b, k, s) :: r)) :
    Calls Try.prog 29 #[ptr p, .string k] w fun e w' => e = .returned (.bool true) ∧ (∃ b', RowS w' n0 p room c mb (l ++ r ++ [(b', k, s)])) ∧ RF RY n0 w w' := by
  have hks := h.ks (b, k, s) (by simp)
  have hnk := not_key h.ch.kd
  have p2 := h.blk.cell 2
  have H := Lib.hid h
  have hlen := h.len
  clear h
  go_enter Try.func29, Try.ntmps29
  go_wp2_with fail
  refine (take_some n0 c mb b l r k s w H.out.ch hks).mono ?_
  rintro e w1 ⟨rfl, hc1, rf1, hb3⟩
  have hP1 := H.out.blk.rf rf1 (by decide)
  have p21 := hP1.cell 2
  clear hb3
  go_wp2_with fail
  refine (push_any n0 c mb (l ++ r) k s w1 hc1 hks hnk (by simp only [maxLen]; simp at hlen ⊢; omega)).mono ?_
  rintro e w2 ⟨rfl, hc2, rf2⟩
  have hP2 := hP1.rf rf2 (by decide)
  have HR := Lib.hid (rf1.trans rf2).toY
  have HX : Hid (RowS w2 n0 p room c mb (l ++ r ++ [(w1.heap.size, k, s)])) := by
    have hue : usedOf (l ++ r ++ [(w1.heap.size, k, s)]) = usedOf (l ++ (b, k, s) :: r) := by rw [usedOf_app, usedOf_app, usedOf_app, usedOf_cons, usedOf_cons]; simp [usedOf]; omega
    have hsub : ∀ (P : Nd → Prop), (∀ x ∈ l ++ (b, k, s) :: r, P x) → (∀ b', P (b, k, s) → P (b', k, s)) → ∀ x ∈ l ++ r ++ [(w1.heap.size, k, s)], P x := by
      intro P h1 h2 x hx
      rcases List.mem_append.1 hx with hx | hx
      · refine h1 x ?_
        rcases List.mem_append.1 hx with hx | hx
        · exact List.mem_append_left _ hx
        · exact List.mem_append_right _ (List.mem_cons_of_mem _ hx)
      · simp only [List.mem_cons, List.not_mem_nil, or_false] at hx
        subst hx
        exact h2 _ (h1 _ (by simp))
    exact ⟨by rw [hue]; exact hP2, H.out.p0, hc2, H.out.rm, hsub (fun x => 1 ≤ x.2.2) H.out.sz (fun _ h => h), by rw [hue]; exact H.out.us, hsub (fun x => x.2.1.size ≤ maxLen) H.out.ks (fun _ h => h)⟩
  clear hP1 hP2 p21 hc1 hc2 rf1 rf2
  go_wp2_with fail
  go_ret
  exact ⟨rfl, ⟨_, HX.out⟩, HR.out⟩
theorem newRow_any (room : Int) (w : World) (h1 : 1 ≤ room) (h2 : room ≤ 1000000) :
    Calls Try.prog 48 #[.int .i64 room] w fun e w' => ∃ p c mb, e = .returned (.tuple #[ptr p, .int .i64 0]) ∧ RowS w' w.heap.size p room c mb [] ∧ Below w.heap.size w w' := by
  go_enter Try.func48, Try.ntmps48
  go_wp2_with fail
  refine (newChain_any _).mono ?_
  rintro e w1 ⟨c, mb, rfl, hc, b1⟩
  have HC := Lib.hid hc
  have HB := Lib.hid b1
  clear hc b1
  go_wp2_with fail
  go_ret2
  have hn := HB.out.size
  refine ⟨w1.heap.size, c, mb, rfl, ⟨Blk.new w1 _ _, hn, HC.out.alloc _, ⟨h1, h2⟩, (by intro x hx; cases hx), (by simp [usedOf]; omega), (by intro x hx; cases hx)⟩, HB.out.alloc hn _⟩
end Go.Proofs.Ytnobcehiahcfkaa
