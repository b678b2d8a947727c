/- A pile beside two rows and a book: what an operation on the pile leaves of the others. -/
import Derived.Test.YthhhlaoiampinaaY14
import Derived.Test.YthhhlaoiampinaaY12
import Derived.Test.YthhhlaoiampinaaY17
import Derived.Test.YthhhlaoiampinaaRows
import Derived.ProofKit
import Derived.OpenShut
import Derived.ShutString
import Derived.ChangeOld
import Derived.Below
import Derived.Carry
import Derived.SizedLaws
import Derived.Test.YthhhlaoiampinaaY11
import Derived.Deep.CondSized
namespace Go.Proofs.Ythhhlaoiampinaa
set_option maxRecDepth 20000
open Go.RowKit Go.Shelf
namespace Bk
theorem GS.of_rg {ex : List TypeId} {mq n0 : Nat} {w w' : World} (hr : RG ex mq n0 w w') : ∃ S, GS w w' S ∧ ∀ k ∈ S, ∃ o, w.heap[k]? = some o ∧ okG ex mq k o = false := by
  classical
  refine ⟨(List.range w.heap.size).filter (fun k => !decide (w'.heap[k]? = w.heap[k]?)), ⟨hr.bel.os, hr.bel.tape, hr.bel.output, hr.bel.size, fun k hk hn => ?_⟩, fun k hk => ?_⟩
  · by_cases h : w'.heap[k]? = w.heap[k]?
    · exact h
    · exact absurd (List.mem_filter.2 ⟨List.mem_range.2 hk, by simp [h]⟩) hn
  · obtain ⟨h1, h2⟩ := List.mem_filter.1 hk
    have h1' := List.mem_range.1 h1
    refine ⟨w.heap[k], Array.getElem?_eq_getElem h1', ?_⟩
    cases ho : okG ex mq k w.heap[k] with
    | false => rfl
    | true =>
      have := hr.fr k _ (Array.getElem?_eq_getElem h1') ho
      rw [this, Array.getElem?_eq_getElem h1'] at h2
      simp at h2
theorem Blk.rg {mq n0 : Nat} {w w' : World} {g : Nat} {t : TypeId} {cs : Array Value} (hb : Blk w g t cs) (hr : RG RP mq n0 w w') (ht : RP.contains t = false) : Blk w' g t cs := hr.fr g _ hb (by simp only [okG, ht]; rfl)
theorem Chn.rg {mq h0 : Nat} {w w' : World} {n0 c mb : Nat} {ns : List Nd} (h : Chn w n0 c mb ns) (hr : RG RP mq h0 w w') (hm : mb ≠ mq) : Chn w' n0 c mb ns := by
  have hroot : RootB w' c mb := by
    obtain ⟨pv, nx, hb⟩ := h.root
    exact ⟨pv, nx, Blk.rg hb hr rfl⟩
  have hnode : ∀ x ∈ ns, NodeB w' x := fun x hx => by
    obtain ⟨pv, nx, hb⟩ := h.node x hx
    exact ⟨pv, nx, Blk.rg hb hr rfl⟩
  have hcell : ∀ (i : Nat) (a : Nat), (a = c ∨ ∃ x ∈ ns, x.1 = a) → w'.cell? ⟨a, i, none⟩ = w.cell? ⟨a, i, none⟩ := by
    intro i a ha
    rcases ha with rfl | ⟨x, hx, rfl⟩
    · obtain ⟨pv, nx, hb⟩ := h.root
      rw [hb.cell i, (Blk.rg hb hr rfl).cell i]
    · obtain ⟨pv, nx, hb⟩ := h.node x hx
      rw [hb.cell i, (Blk.rg hb hr rfl).cell i]
  refine ⟨hroot, hnode, ?_, h.nd, h.kd, ?_, h.b0⟩
  · refine h.ring.keep (fun a ha => ?_) (fun a ha => ?_)
    · refine hcell 3 a ?_
      have := List.dropLast_subset _ ha
      simp only [List.mem_cons, List.mem_append, List.mem_map, List.not_mem_nil, or_false] at this
      rcases this with h | ⟨x, hx, h⟩ | h
      · exact .inl h
      · exact .inr ⟨x, hx, h⟩
      · exact .inl h
    · refine hcell 2 a ?_
      simp only [List.tail_cons, List.mem_append, List.mem_map, List.mem_cons, List.not_mem_nil, or_false] at ha
      rcases ha with ⟨x, hx, h⟩ | h
      · exact .inr ⟨x, hx, h⟩
      · exact .inl h
  · obtain ⟨D, ⟨es, clock, hh, F, hs, hD⟩, r⟩ := h.mp
    exact ⟨D, ⟨es, clock, hr.fr _ _ hh (by simp [okG, hm]), F, hs, hD⟩, r⟩
theorem RowS.rg {mq h0 : Nat} {w w' : World} {n0 p c mb : Nat} {room : Int} {ns : List Nd} (h : RowS w n0 p room c mb ns) (hr : RG RP mq h0 w w') (hm : mb ≠ mq) : RowS w' n0 p room c mb ns :=
  ⟨Blk.rg h.blk hr rfl, h.p0, Chn.rg h.ch hr hm, h.rm, h.sz, h.us, h.ks⟩
/-- What a book's blocks are. -/
theorem BkT.foot_obj {w : World} {n0 p mb : Nat} {g : Option Nat} {rs : List Rec} {s : St} (h : BkT w n0 p mb g rs s) : ∀ j ∈ foot p mb g, ∃ o, w.heap[j]? = some o ∧ ((∃ cs t fr, o = .cells cs t fr ∧ (t = 122 ∨ t = 5)) ∨ (j = mb ∧ ∃ es ck, o = .map es ck)) := by
  obtain ⟨a, v, hb, ha, ho, hv, hn⟩ := h.blk
  intro j hj
  simp only [foot, List.mem_cons, Option.mem_toList] at hj
  rcases hj with rfl | rfl | hj
  · exact ⟨_, hb, .inl ⟨_, _, _, rfl, .inl rfl⟩⟩
  · obtain ⟨es, ck, hm⟩ := h.mp.isMapObj
    exact ⟨_, hm, .inr ⟨rfl, _, _, rfl⟩⟩
  · rcases ho.2 with ⟨rfl, _⟩ | ⟨g', cap, cur, fz, rfl, h2, h3, h4⟩
    · rw [← hv] at hj; cases hj
    · rw [← hv] at hj
      have : g' = j := by simpa [Value.ownBlock] using hj
      subst this
      exact ⟨_, h3, .inl ⟨_, _, _, rfl, .inr rfl⟩⟩
theorem BkS.rg {mq h0 : Nat} {w w' : World} {n0 p mb : Nat} {g : Option Nat} {rs : List Rec} {s : St} (h : BkS w n0 p mb g rs s) (hr : RG RP mq h0 w w') (hm : mb ≠ mq) : BkS w' n0 p mb g rs s := by
  obtain ⟨S, hg, hS⟩ := GS.of_rg hr
  refine ⟨h.t.gs hg fun j hj hjS => ?_, h.pl⟩
  obtain ⟨o, ho, hf⟩ := hS j hjS
  obtain ⟨o', ho', hc⟩ := h.t.foot_obj j hj
  rw [ho] at ho'
  cases ho'
  rcases hc with ⟨cs, t, fr, rfl, rfl | rfl⟩ | ⟨rfl, _, _, rfl⟩
  · cases hf
  · cases hf
  · simp [okG, hm] at hf
/-- A row of texts is written. -/
theorem BkS.spoil {w w' : World} {n0 p mb : Nat} {g : Option Nat} {rs : List Rec} {s : St} {row : Option Nat} (h : BkS w n0 p mb g rs s) (hg : w.grownBy w' row) (hrow : ∀ k, row = some k → ∃ cs fr, w.heap[k]? = some (.cells cs 9 fr)) : BkS w' n0 p mb g rs s := by
  refine ⟨h.t.gs (S := row.toList) (GS.of_grown hg (fun j hj => .inl (by simp [hj]))) fun j hj hjS => ?_, h.pl⟩
  obtain ⟨cs, fr, ho⟩ := hrow j (by simpa using hjS)
  obtain ⟨o', ho', hc⟩ := h.t.foot_obj j hj
  rw [ho] at ho'
  cases ho'
  rcases hc with ⟨_, t, _, he, rfl | rfl⟩ | ⟨rfl, _, _, he⟩
  · injection he with _ he; revert he; decide
  · injection he with _ he; revert he; decide
  · cases he
theorem RowS.spoil {w w' : World} {n0 p c mb : Nat} {room : Int} {ns : List Nd} {row : Option Nat} (h : RowS w n0 p room c mb ns) (hg : w.grownBy w' row) (hrow : ∀ k, row = some k → ∃ cs fr, w.heap[k]? = some (.cells cs 9 fr)) : RowS w' n0 p room c mb ns :=
  h.keptT hg fun k hk => by obtain ⟨cs, fr, ho⟩ := hrow k hk; exact ⟨cs, _, fr, ho, by decide, by decide, by decide⟩
/-- A pile and what was put into it. -/
structure PV (w : World) (n0 p mb : Nat) (room : Int) (es : List Pe) (cs : List ByteArray) : Prop where
  st : PileS w n0 p room mb es
  rep : RepS es cs
theorem PV.below {w w' : World} {n0 p mb : Nat} {room : Int} {es : List Pe} {cs : List ByteArray} (h : PV w n0 p mb room es cs) (hb : Below w.heap.size w w') : PV w' n0 p mb room es cs := ⟨h.st.below hb, h.rep⟩
theorem PV.spoil {w w' : World} {n0 p mb : Nat} {room : Int} {es : List Pe} {cs : List ByteArray} {row : Option Nat} (h : PV w n0 p mb room es cs) (hg : w.grownBy w' row) (hrow : ∀ k, row = some k → ∃ cs fr, w.heap[k]? = some (.cells cs 9 fr)) : PV w' n0 p mb room es cs :=
  ⟨(h.st.toT.keptO hg (fun k hk => by obtain ⟨cs, fr, ho⟩ := hrow k hk; exact ⟨_, ho, rfl⟩)).toS h.st.rm h.st.sz h.st.us, h.rep⟩
/-- Get of names that were told by Put. -/
def GetOk (n0 p mb : Nat) (room : Int) (es : List Pe) (cs names : List ByteArray) (q : Int) (s : ByteArray) : Prop :=
  ∀ W u, PV W n0 p mb room es cs → SlR W Go.Proofs.Ythhhlaoiampinaa.es u names → Calls Try.prog 26 #[ptr p, u] W fun e w' => (∃ a b, e = .returned (.tuple #[.string a, .int .i64 b]) ∧ (q = 0 → a = s ∧ b = 0)) ∧ Below W.heap.size W w'
theorem GetOk.none_ (n0 p mb : Nat) (room : Int) (es : List Pe) (cs : List ByteArray) (q : Int) (s : ByteArray) (hq : q ≠ 0) : GetOk n0 p mb room es cs [] q s := by
  intro W u h hu
  refine (getP_all n0 p mb room es [] u W h.st (by simp) hu (by simp) h.rep.nz).mono ?_
  rintro e w' ⟨rfl, hb⟩
  exact ⟨⟨_, _, rfl, fun h => absurd h hq⟩, hb⟩
theorem GetOk.some_ (n0 p mb : Nat) (room : Int) (es : List Pe) (cs : List ByteArray) (s : ByteArray) (hs : s.size ≤ 5000) : GetOk n0 p mb room es (cs ++ cutB s) ((cutB s).map hxn) 0 s := by
  intro W u h hu
  obtain ⟨ys, h1, h2, h3⟩ := pick_es h.rep (cutB s) (fun t ht => List.mem_append_right _ ht)
  have h5 := cutB_5000 hs
  have hyl : ys.length = (cutB s).length := by rw [← h2, List.length_map]
  refine (getP_all n0 p mb room es ys u W h.st h1 (by rw [h3]; exact hu) (by omega) h.rep.nz).mono ?_
  rintro e w' ⟨rfl, hb⟩
  rw [sumT_t, h2, cutB_sum, if_pos hs, flatT_t, h2, cutB_flat, mkS_sl]
  exact ⟨⟨_, _, rfl, fun _ => ⟨rfl, rfl⟩⟩, hb⟩
/-- Any Put. -/
theorem putP_pv (n0 p mb : Nat) (room : Int) (es : List Pe) (cs : List ByteArray) (s : ByteArray) (w : World) (h : PV w n0 p mb room es cs) (hl : cs.length ≤ 4611686018427387904) :
    Calls Try.prog 24 #[ptr p, .string s] w fun e w' => ∃ v q names es' cs', e = .returned (.tuple #[v, .int .i64 q]) ∧ RG RP mb n0 w w' ∧ PV w' n0 p mb room es' cs' ∧ cs'.length ≤ cs.length + 5000 ∧ Owns w' w.heap.size 9 1 Go.Proofs.Ythhhlaoiampinaa.es v names ∧ names.length ≤ 5000 ∧ GetOk n0 p mb room es' cs' names q s := by
  by_cases hs : 5000 < s.size
  · refine (putP_large n0 p mb room es s w h.st hs).mono ?_
    rintro e w' ⟨rfl, rfl⟩
    exact ⟨_, _, [], es, cs, rfl, RG.refl _ _ _ _, h, by omega, Owns.nil .., by simp, GetOk.none_ _ _ _ _ _ _ _ _ (by decide)⟩
  · refine (putP_mainG n0 p mb room es s w h.st (by omega) (fun x hx => by have := h.rep.cb x hx; omega) h.rep.nz).mono ?_
    rintro e w' ⟨v, q, rfl, hrg, ⟨rfl, es', hst, hm, hpr, ho⟩ | ⟨rfl, rfl, hst, hc⟩ | ⟨rfl, rfl, hst, hc⟩⟩
    · have h5 := cutB_5000 (s := s) (by omega)
      exact ⟨_, _, (cutB s).map hxn, es', cs ++ cutB s, rfl, hrg, ⟨hst, h.rep.put h.st.kd hpr⟩, by rw [List.length_append]; omega, ho, by rw [List.length_map]; omega, GetOk.some_ _ _ _ _ _ _ _ (by omega)⟩
    · exact ⟨_, _, [], es, cs, rfl, hrg, ⟨hst, h.rep⟩, by omega, Owns.nil .., by simp, GetOk.none_ _ _ _ _ _ _ _ _ (by decide)⟩
    · exact ⟨_, _, [], es, cs, rfl, hrg, ⟨hst, h.rep⟩, by omega, Owns.nil .., by simp, GetOk.none_ _ _ _ _ _ _ _ _ (by decide)⟩
/-- Two rows and a book. -/
structure Trio (w : World) (n1 p1 c1 m1 n2 p2 c2 m2 n3 p3 m3 : Nat) (g : Option Nat) (ns1 ns2 : List Nd) (rs : List Rec) (s : St) : Prop where
  r1 : RowS w n1 p1 300 c1 m1 ns1
  r2 : RowS w n2 p2 300 c2 m2 ns2
  b : BkS w n3 p3 m3 g rs s
section
variable {w w' : World} {n1 p1 c1 m1 n2 p2 c2 m2 n3 p3 m3 : Nat} {g : Option Nat} {ns1 ns2 : List Nd} {rs : List Rec} {s : St}
theorem Trio.below (h : Trio w n1 p1 c1 m1 n2 p2 c2 m2 n3 p3 m3 g ns1 ns2 rs s) (hb : Below w.heap.size w w') : Trio w' n1 p1 c1 m1 n2 p2 c2 m2 n3 p3 m3 g ns1 ns2 rs s := ⟨h.r1.below hb, h.r2.below hb, ⟨h.b.t.below hb, h.b.pl⟩⟩
theorem Trio.rg {mq h0 : Nat} (h : Trio w n1 p1 c1 m1 n2 p2 c2 m2 n3 p3 m3 g ns1 ns2 rs s) (hr : RG RP mq h0 w w') (e1 : m1 ≠ mq) (e2 : m2 ≠ mq) (e3 : m3 ≠ mq) : Trio w' n1 p1 c1 m1 n2 p2 c2 m2 n3 p3 m3 g ns1 ns2 rs s := ⟨RowS.rg h.r1 hr e1, RowS.rg h.r2 hr e2, h.b.rg hr e3⟩
theorem Trio.spoil {row : Option Nat} (h : Trio w n1 p1 c1 m1 n2 p2 c2 m2 n3 p3 m3 g ns1 ns2 rs s) (hg : w.grownBy w' row) (hrow : ∀ k, row = some k → ∃ cs fr, w.heap[k]? = some (.cells cs 9 fr)) : Trio w' n1 p1 c1 m1 n2 p2 c2 m2 n3 p3 m3 g ns1 ns2 rs s := ⟨RowS.spoil h.r1 hg hrow, RowS.spoil h.r2 hg hrow, h.b.spoil hg hrow⟩
end
theorem own_row {w : World} {base : Nat} {v : Value} {xs : List ByteArray} (h : Owns w base 9 1 Go.Proofs.Ythhhlaoiampinaa.es v xs) : ∀ k, v.ownBlock = some k → ∃ cs fr, w.heap[k]? = some (.cells cs 9 fr) := by
  intro k hk
  rcases h.2 with ⟨rfl, _⟩ | ⟨g, cap, cur, rfl, h2, h3, _⟩
  · cases hk
  · have : g = k := by simpa [Value.ownBlock] using hk
    subst this
    exact ⟨_, _, h3⟩
end Bk
end Go.Proofs.Ythhhlaoiampinaa
namespace Go.Proofs.Ythhhlaoiampinaa
set_option maxRecDepth 20000
open Go.RowKit Go.Shelf
namespace Bk
theorem put_one {w : World} {base g n cap : Nat} {xs : List ByteArray} (h : Owns w base 9 1 Go.Proofs.Ythhhlaoiampinaa.es (.slice (some ⟨g, 0, none⟩) n cap) xs) (i : Nat) (hi : i < xs.length) (x : ByteArray) :
    Owns (w.setCell ⟨g, i, none⟩ (.string x)) base 9 1 Go.Proofs.Ythhhlaoiampinaa.es (.slice (some ⟨g, 0, none⟩) n cap) (xs.set i x) := by
  obtain ⟨hb, rfl, hn, hm, cur, hh, hs, ht⟩ := h.row
  have := Owns.of_row (w := w.setCell ⟨g, i, none⟩ (.string x)) (e := 9) (xs := xs.set i x) (en := Go.Proofs.Ythhhlaoiampinaa.es) (size := 1) (cap := cap) (fun _ => rfl) hb (by rw [List.length_set]; exact hn) hm (hh.set_ i (.string x)) (by simpa using hs) (by
    rw [es_map] at ht ⊢
    rw [List.length_set, Array.toList_setIfInBounds, List.take_set, ht, List.map_set])
  rwa [List.length_set] at this
theorem cell_one {w : World} {base g n cap : Nat} {xs : List ByteArray} (h : Owns w base 9 1 Go.Proofs.Ythhhlaoiampinaa.es (.slice (some ⟨g, 0, none⟩) n cap) xs) (i : Nat) (hi : i < xs.length) : w.cell? ⟨g, i, none⟩ = some (.string xs[i]) ∧ w.frozen? ⟨g, i, none⟩ = false := by
  obtain ⟨hb, rfl, hn, hm, cur, hh, hs, ht⟩ := h.row
  refine ⟨?_, hh.frozen i⟩
  rw [hh.cell i]
  rw [es_map] at ht
  have h1 : (cur.toList.take (xs.length * 1))[i]? = some (.string xs[i]) := by rw [ht, List.getElem?_map, List.getElem?_eq_getElem hi]; rfl
  rw [List.getElem?_take, if_pos (by omega)] at h1
  simpa using h1
abbrev spl : ByteArray := ⟨#[115, 112, 111, 105, 108, 116]⟩
theorem grS {w w1 : World} {g n c : Nat} (h : w.grownBy w1 (Value.ownBlock (.slice (some ⟨g, 0, none⟩) n c))) (i : Nat) (u : Value) : w.grownBy (w1.setCell ⟨g, i, none⟩ u) (Value.ownBlock (.slice (some ⟨g, 0, none⟩) n c)) :=
  ⟨h.os, h.tape, h.output, by simpa using h.size, fun k hk hr => (Below.heap_setCell w1 _ u k (fun e => hr (by rw [e]; rfl))).trans (h.block k hk hr)⟩
/-- A row of texts, some of which are spoilt. -/
def Spoil (w0 wl : World) (base : Nat) (A : Option Addr) (n c : Nat) : Prop := (∃ ks : List ByteArray, ks.length = n ∧ Owns wl base 9 1 Go.Proofs.Ythhhlaoiampinaa.es (.slice A n c) ks) ∧ w0.grownBy wl (Value.slice A n c).ownBlock
theorem Spoil.start {w0 : World} {base : Nat} {A : Option Addr} {c : Nat} {xs : List ByteArray} (h : Owns w0 base 9 1 Go.Proofs.Ythhhlaoiampinaa.es (.slice A xs.length c) xs) : Spoil w0 w0 base A xs.length c := ⟨⟨xs, rfl, h⟩, World.grownBy.refl _ _⟩
theorem Spoil.step {w0 wl : World} {base : Nat} {A : Option Addr} {n c : Nat} (h : Spoil w0 wl base A n c) (q : Nat) (hq : q < n) : ∃ g u, A = some ⟨g, 0, none⟩ ∧ wl.cell? ⟨g, q, none⟩ = some (.string u) ∧ wl.frozen? ⟨g, q, none⟩ = false ∧ n ≤ c ∧ Spoil w0 (wl.setCell ⟨g, q, none⟩ (.string spl)) base A n c := by
  obtain ⟨⟨ks, hk, ho⟩, hg⟩ := h
  rcases ho.2 with ⟨hv, h0⟩ | ⟨g, cap, cur, hv, hb, hh, hn, _⟩
  · injection hv with _ hv _; omega
  · injection hv with h1 h2 h3
    subst h1 h3
    obtain ⟨c0, f0⟩ := cell_one ho q (by omega)
    exact ⟨g, _, rfl, c0, f0, by omega, ⟨_, by rw [List.length_set]; exact hk, put_one ho q (by omega) spl⟩, grS hg q _⟩
section
variable {w w' : World} {n1 p1 c1 m1 n2 p2 c2 m2 n3 p3 m3 : Nat} {g : Option Nat} {ns1 ns2 : List Nd} {rs : List Rec} {s : St}
theorem Trio.keys1 (h : Trio w n1 p1 c1 m1 n2 p2 c2 m2 n3 p3 m3 g ns1 ns2 rs s) {kk : List ByteArray} (hk : ns1.map (·.2.1) = kk) :
    Calls Try.prog 27 #[ptr p1] w fun e w' => ∃ v, e = .returned v ∧ Owns w' w.heap.size 9 1 Go.Proofs.Ythhhlaoiampinaa.es v kk ∧ Below w.heap.size w w' := hk ▸ keys_any _ _ _ _ _ _ _ h.r1
theorem Trio.keys2 (h : Trio w n1 p1 c1 m1 n2 p2 c2 m2 n3 p3 m3 g ns1 ns2 rs s) {kk : List ByteArray} (hk : ns2.map (·.2.1) = kk) :
    Calls Try.prog 27 #[ptr p2] w fun e w' => ∃ v, e = .returned v ∧ Owns w' w.heap.size 9 1 Go.Proofs.Ythhhlaoiampinaa.es v kk ∧ Below w.heap.size w w' := hk ▸ keys_any _ _ _ _ _ _ _ h.r2
def KB (s : St) (ks : List ByteArray) : Prop := Ky.Sorted ks ∧ ks.length ≤ 100 ∧ ∀ k, k ∈ ks ↔ (s.1 k).isSome = true
theorem KB.eq {s : St} {xs ys : List ByteArray} (h : KB s xs) (k : KB s ys) : xs = ys := Ky.sorted_eq h.1 k.1 fun x => (h.2.2 x).trans (k.2.2 x).symm
theorem Trio.keysB (h : Trio w n1 p1 c1 m1 n2 p2 c2 m2 n3 p3 m3 g ns1 ns2 rs s) :
    Calls Try.prog 28 #[ptr p3] w fun e w' => ∃ v ks, e = .returned v ∧ Owns w' w.heap.size 9 1 Go.Proofs.Ythhhlaoiampinaa.es v ks ∧ KB s ks ∧ Below w.heap.size w w' := by
  have hc := (inv_play h.b.pl).many
  refine (keysB_any _ _ _ _ _ _ _ h.b.t hc).mono ?_
  rintro e w' ⟨v, ks, rfl, ho, h1, h2, h3, hb⟩
  exact ⟨v, ks, rfl, ho, ⟨h1, by omega, h3⟩, hb⟩
end
set_option maxHeartbeats 8000000 in
theorem ownThings_walk (v : Value) (xs : List Stp) (w : World) (h : SlR w e_st v xs) (hl : xs.length ≤ 1048576) (hx : ∀ x ∈ xs, Wide x.k ∧ Wide x.a ∧ Wide x.b ∧ x.s.size ≤ maxLen ∧ x.t.size ≤ maxLen) :
    Calls Try.prog 6 #[v] w fun e w' => e = .returned (.bool true) ∧ Below w.heap.size w w' := by
  have HV := Lib.hid (fun hn => h.rowN (size := 22) (fun _ => rfl) hn)
  have HRD := Lib.hid (fun W (hb : Below w.heap.size w W) => rowedD_any 300 v xs W (by decide) (by decide) (h.below hb) (by simp only [maxLen]; omega) hx)
  have HBD := Lib.hid (fun W (hb : Below w.heap.size w W) => booked_any v xs W (h.below hb) hl hx)
  obtain ⟨A, cp, rfl, hc⟩ := h.form
  clear h hx
  have HR0 := Lib.hid (piled_any (.slice none 0 0) [] w (SlR.nil _ _) (by simp) (by simp))
  go_enter Try.func6, Try.ntmps6
  go_wp2_with fail
  refine HR0.out.mono ?_
  rintro e w1 ⟨p, mb, va, es0, os0, rfl, hpu, _, hol, b1⟩
  obtain rfl : os0 = [] := List.eq_nil_of_length_eq_zero (by simpa using hol)
  have HP1 : Hid (PV w1 w.heap.size p mb 1000000 es0 []) := ⟨hpu.st, hpu.rep⟩
  have HB1 := Lib.hid b1
  have HM : Hid (mb < w1.heap.size) := hpu.st.mp.lt
  clear HR0 hpu b1 hol
  go_wp2_with fail
  refine (HRD.out _ HB1.out).mono ?_
  rintro e w2 ⟨p1, c1, m1, ns1, rfl, r1, b2, k1⟩
  have HB2 := Lib.hid (HB1.out.trans (b2.mono HB1.out.size))
  have HP2 := Lib.hid (HP1.out.below b2)
  have HR2 := Lib.hid r1
  have HN1 : Hid (m1 ≠ mb) := by have h1 := r1.ch.b0.2.1; have h2 := HM.out; show _ ≠ _; omega
  have HM2 : Hid (mb < w2.heap.size) := Nat.lt_of_lt_of_le HM.out b2.size
  have HK1 := Lib.hid k1
  clear r1 b2 k1 HP1
  go_wp2_with fail
  refine (HRD.out _ HB2.out).mono ?_
  rintro e w3 ⟨p2, c2, m2, ns2, rfl, r2, b3, k2⟩
  have HB3 := Lib.hid (HB2.out.trans (b3.mono HB2.out.size))
  have HP3 := Lib.hid (HP2.out.below b3)
  have HR3 := Lib.hid (HR2.out.below b3)
  have HR3' := Lib.hid r2
  have HN2 : Hid (m2 ≠ mb) := by have h1 := r2.ch.b0.2.1; have h2 := HM2.out; show _ ≠ _; omega
  have HM3 : Hid (mb < w3.heap.size) := Nat.lt_of_lt_of_le HM2.out b3.size
  have hkk : ns1.map (·.2.1) = ns2.map (·.2.1) := by
    have : kv ns1 = kv ns2 := HK1.out.trans k2.symm
    have := congrArg (List.map (·.1)) this
    unfold kv at this
    rw [List.map_map, List.map_map] at this
    exact this
  have hkl := HR3.out.len
  obtain ⟨kk, HKK⟩ : ∃ kk, Hid (ns1.map (·.2.1) = kk ∧ ns2.map (·.2.1) = kk ∧ kk.length ≤ 1000000) := ⟨_, rfl, hkk.symm, by rw [List.length_map]; exact hkl⟩
  clear r2 b3 k2 HK1 HP2 HR2 HRD hkk hkl
  go_wp2_with fail
  refine (HBD.out _ HB3.out).mono ?_
  rintro e w4 ⟨p3, m3, g3, vi, rfl, hb, _, b4⟩
  generalize run xs = rr at *
  obtain ⟨rs, s⟩ := rr
  have HB4 := Lib.hid (HB3.out.trans (b4.mono HB3.out.size))
  have HP4 := Lib.hid (HP3.out.below b4)
  have HN3 : Hid (m3 ≠ mb) := by have h1 := hb.t.b0.2; have h2 := HM3.out; show _ ≠ _; omega
  have HT4 : Hid (Trio w4 w1.heap.size p1 c1 m1 w2.heap.size p2 c2 m2 w3.heap.size p3 m3 g3 ns1 ns2 rs s) := ⟨HR3.out.below b4, HR3'.out.below b4, hb⟩
  clear hb b4 HBD HP3 HR3 HR3' HM HM2 HM3 HB1 HB2 HB3
  generalize w1.heap.size = n1 at *
  generalize w2.heap.size = n2 at *
  generalize w3.heap.size = n3 at *
  go_wp2_with fail
  go_loopw [51] (fun iv wr => ∃ (k : Nat) (es : List Pe) (cs : List ByteArray), iv = .int .i64 (k : Int) ∧ k ≤ xs.length ∧ PV wr w.heap.size p mb 1000000 es cs ∧ cs.length ≤ 5000 * k ∧ Trio wr n1 p1 c1 m1 n2 p2 c2 m2 n3 p3 m3 g3 ns1 ns2 rs s ∧ Below w.heap.size w wr) (fun iv _ => xs.length - (intOf iv).toNat)
  case atStart => exact ⟨0, es0, [], rfl, Nat.zero_le _, HP4.out, by simp, HT4.out, HB4.out⟩
  case round =>
    obtain ⟨k, es, cs, rfl, hk, hpv, hcl, htr, hbel⟩ := hrel
    clear HP4 HT4
    by_cases hlt : k < xs.length
    · obtain ⟨bb, off, c3, hv2, hc3, hbb, hcell⟩ := HV.out (by omega)
      injection hv2 with g1 g2 g3
      subst g1 g3
      have hC : wr.rangeAt bb (off + k * 22) (e_st xs[k]) := fun j v hv => (hbel.cell (p := ⟨bb, off + (k * 22) + j, none⟩) hbb).trans (by rw [Nat.add_assoc]; exact hcell k hlt j v hv)
      clear hcell g2
      generalize xs[k] = x at *
      have hB5 := Blk.new wr 63 (e_st x).toArray
      have hb5 : Below wr.heap.size wr (wr.alloc (.cells (e_st x).toArray 63)) := (Below.refl _ wr).alloc (Nat.le_refl _) _
      have HP5 := Lib.hid (hpv.below hb5)
      have HT5 := Lib.hid (htr.below hb5)
      have HB5 := Lib.hid (hbel.trans (hb5.mono hbel.size))
      have e3 : (wr.alloc (.cells (e_st x).toArray 63)).cell? ⟨wr.heap.size, 3, none⟩ = some (.string x.s) := hB5.cell 3
      have HBX := Lib.hid hB5
      clear hb5 hpv htr hbel hB5
      have hst : (storeCells ⟨wr.heap.size, 0, none⟩ (e_st x)).run Try.prog (wr.alloc (.cells stZ 63)) = .ok () (wr.alloc (.cells (e_st x).toArray 63)) :=
        run_storeCells_new (P := Try.prog) wr 63 stZ (e_st x).toArray (by kernel_rfl) (by simp [stZ, e_st]) (by simp [e_st, Value.oneCell'])
      unfold stZ at hst
      go_wp2_with (refine wpList_load_mid rfl 63 (.tmp 53) rfl bb (off + k * 22) rfl (e_st x) _ hC Try.underlying63 rfl (by kernel_rfl) ?_)
      clear hst hC
      have hcs : cs.length ≤ 4611686018427387904 := by omega
      refine (putP_pv _ p mb 1000000 es cs x.s _ HP5.out hcs).mono ?_
      rintro e w6 ⟨v6, q, names, es', cs', rfl, rg6, hpv6, hcl6, ho6, hnl, hget⟩
      have HT6 := Lib.hid (HT5.out.rg rg6 HN1.out HN2.out HN3.out)
      have HB6 := Lib.hid (HB5.out.trans rg6.bel)
      have HBX6 := Lib.hid (Blk.rg HBX.out rg6 rfl)
      have HP6 := Lib.hid hpv6
      have HGET := Lib.hid hget
      have HO6 := Lib.hid ho6
      obtain ⟨A6, c6, rfl⟩ := ho6.slice
      have hcl' : cs'.length ≤ 5000 * (k + 1) := by omega
      have HCL := Lib.hid hcl'
      have HNB : Hid (w.heap.size ≤ (wr.alloc (.cells (e_st x).toArray 63)).heap.size ∧ wr.heap.size < (wr.alloc (.cells (e_st x).toArray 63)).heap.size) := ⟨HB5.out.size, by rw [World.size_alloc]; omega⟩
      have HOL := Lib.hid (fun j hj => (HO6.out.lt j hj).1)
      clear rg6 hpv6 hcl6 ho6 hget HP5 HT5 HB5 HBX e3 hcl hcs hcl'
      generalize (wr.alloc (.cells (e_st x).toArray 63)).heap.size = n6 at *
      generalize wr.heap.size = bx at *
      go_wp2_with fail
      refine (copyStr_any _ names _ (SlR.of_owns HO6.out) (by omega)).mono ?_
      rintro e w7 ⟨⟨u7, rfl, ho7⟩, b7⟩
      have HP7 := Lib.hid (HP6.out.below b7)
      have HT7 := Lib.hid (HT6.out.below b7)
      have HB7 := Lib.hid (HB6.out.trans (b7.mono HB6.out.size))
      have HBX7 := Lib.hid (HBX6.out.below b7 HBX6.out.lt)
      have HO7 := Lib.hid (HO6.out.below b7)
      have HU7 := Lib.hid ho7
      have HLT : Hid (∀ j, (Value.slice A6 names.length c6).ownBlock = some j → j < w6.heap.size) := fun j hj => (HO6.out.lt j hj).2
      have HLB : Hid (∀ j, (Value.slice A6 names.length c6).ownBlock = some j → w.heap.size ≤ j ∧ bx ≠ j) := fun j hj => by
        have h1 := HOL.out j hj
        have h2 := HNB.out
        omega
      clear HOL HNB
      clear b7 ho7 HP6 HT6 HB6 HBX6 HO6
      go_wp2_with fail
      go_loopw [66] (fun iv wl => ∃ q : Nat, iv = .int .i64 (q : Int) ∧ q ≤ names.length ∧ Spoil w7 wl n6 A6 names.length c6) (fun iv _ => names.length - (intOf iv).toNat)
      case atStart => exact ⟨0, rfl, Nat.zero_le _, Spoil.start HO7.out⟩
      case round =>
        obtain ⟨q2, rfl, hq2, hsp⟩ := hrel
        by_cases hql : q2 < names.length
        · obtain ⟨gk, u0, rfl, c0, f0, hnc, hsp'⟩ := hsp.step q2 hql
          have HS := Lib.hid hsp'
          clear hsp hsp'
          have hqi : (q2 : Int) < (names.length : Int) := by omega
          go_wp2_with fail
          exact ⟨⟨q2 + 1, by simp, by omega, HS.out⟩, by simp only [intOf]; omega⟩
        · have hg := hsp.2
          have hrow := own_row HO7.out
          have HP8 := Lib.hid (HP7.out.spoil hg hrow)
          have HT8 := Lib.hid (HT7.out.spoil hg hrow)
          have HB8 := Lib.hid (HB7.out.grown hg HB7.out.size (fun j hj => (HLB.out j hj).1))
          have HBX8 := Lib.hid (Blk.keptR HBX7.out hg (fun e => (HLB.out bx e.symm).2 rfl))
          have HU8 := Lib.hid (SlR.of_owns (HU7.out.grownOther hg (by
            cases hv : u7.ownBlock with
            | none => exact .inl rfl
            | some j => exact .inr (fun e => by have h1 := HLT.out j e.symm; have h2 := (HU7.out.lt j hv).1; omega))))
          clear hg hrow hsp HP7 HT7 HB7 HBX7 HU7 HO7 HLB HLT
          go_wp2_with fail
          refine (HGET.out _ u7 HP8.out HU8.out).mono ?_
          rintro e w9 ⟨⟨a, b, rfl, hab⟩, b9⟩
          have HP9 := Lib.hid (HP8.out.below b9)
          have HT9 := Lib.hid (HT8.out.below b9)
          have HB9 := Lib.hid (HB8.out.trans (b9.mono HB8.out.size))
          have e9 : w9.cell? ⟨bx, 3, none⟩ = some (.string x.s) := (HBX8.out.below b9 HBX8.out.lt).cell 3
          have hss : (x.s.toList == x.s.toList) = true := by simp
          clear b9 HP8 HT8 HB8 HBX8 HU8
          by_cases hq0 : q = 0
          · subst hq0
            obtain ⟨rfl, rfl⟩ := hab rfl
            go_wp2_with fail
            exact ⟨⟨k + 1, es', cs', by simp, by omega, HP9.out, HCL.out, HT9.out, HB9.out⟩, by simp only [intOf]; omega⟩
          · have hqf : (q == 0) = false := by rw [beq_eq_false_iff_ne]; exact hq0
            clear hab
            go_wp2_with fail
            exact ⟨⟨k + 1, es', cs', by simp, by omega, HP9.out, HCL.out, HT9.out, HB9.out⟩, by simp only [intOf]; omega⟩
    · have HT := Lib.hid htr
      have HB := Lib.hid hbel
      clear hpv htr hbel hcl
      have hkl := HKK.out.2.2
      go_wp2_with fail
      refine (HT.out.keys1 HKK.out.1).mono ?_
      rintro e w10 ⟨v10, rfl, ho10, b10⟩
      have HO10 := Lib.hid ho10
      have HT10 := Lib.hid (HT.out.below b10)
      have HB10 := Lib.hid (HB.out.trans (b10.mono HB.out.size))
      have HLB : Hid (∀ j, v10.ownBlock = some j → w.heap.size ≤ j) := fun j hj => Nat.le_trans HB.out.size (HO10.out.lt j hj).1
      obtain ⟨A10, c10, rfl⟩ := ho10.slice
      clear ho10 b10 HT HB
      generalize wr.heap.size = n10 at *
      go_wp2_with fail
      go_loopw [96] (fun iv wl => ∃ q : Nat, iv = .int .i64 (q : Int) ∧ q ≤ kk.length ∧ Spoil w10 wl n10 A10 kk.length c10) (fun iv _ => kk.length - (intOf iv).toNat)
      case atStart => exact ⟨0, rfl, Nat.zero_le _, Spoil.start HO10.out⟩
      case round =>
        obtain ⟨q2, rfl, hq2, hsp⟩ := hrel
        by_cases hql : q2 < kk.length
        · obtain ⟨gk, u0, rfl, c0, f0, hnc, hsp'⟩ := hsp.step q2 hql
          have HS := Lib.hid hsp'
          clear hsp hsp'
          have hqi : (q2 : Int) < (kk.length : Int) := by omega
          go_wp2_with fail
          exact ⟨⟨q2 + 1, by simp, by omega, HS.out⟩, by simp only [intOf]; omega⟩
        · have hg := hsp.2
          have HT11 := Lib.hid (HT10.out.spoil hg (own_row HO10.out))
          have HB11 := Lib.hid (HB10.out.grown hg HB10.out.size (fun j hj => HLB.out j hj))
          clear hg hsp HO10 HT10 HB10 HLB
          go_wp2_with fail
          refine (HT11.out.keysB).mono ?_
          rintro e w12 ⟨v12, k12, rfl, ho12, hk12, b12⟩
          have HO12 := Lib.hid ho12
          have HT12 := Lib.hid (HT11.out.below b12)
          have HB12 := Lib.hid (HB11.out.trans (b12.mono HB11.out.size))
          have HLB : Hid (∀ j, v12.ownBlock = some j → w.heap.size ≤ j ∧ j < w12.heap.size) := fun j hj => ⟨Nat.le_trans HB11.out.size (HO12.out.lt j hj).1, (HO12.out.lt j hj).2⟩
          have hl12 := hk12.2.1
          clear ho12 b12 HT11 HB11
          generalize wr.heap.size = n12 at *
          go_wp2_with fail
          refine (HT12.out.keysB).mono ?_
          rintro e w13 ⟨v13, k13, rfl, ho13, hk13, b13⟩
          have HO13 := Lib.hid ho13
          have HT13 := Lib.hid (HT12.out.below b13)
          have HB13 := Lib.hid (HB12.out.trans (b13.mono HB12.out.size))
          have HO12' := Lib.hid (HO12.out.below b13)
          have HK13 := Lib.hid hk13
          have HLC : Hid (∀ j, v13.ownBlock = some j → w12.heap.size ≤ j) := fun j hj => (HO13.out.lt j hj).1
          obtain ⟨A12, c12, rfl⟩ := HO12.out.slice
          clear ho13 b13 hk13 hk12 HT12 HB12 HO12
          go_wp2_with fail
          go_loopw [109] (fun iv wl => ∃ q : Nat, iv = .int .i64 (q : Int) ∧ q ≤ k12.length ∧ Spoil w13 wl n12 A12 k12.length c12) (fun iv _ => k12.length - (intOf iv).toNat)
          case atStart => exact ⟨0, rfl, Nat.zero_le _, Spoil.start HO12'.out⟩
          case round =>
            obtain ⟨q2, rfl, hq2, hsp⟩ := hrel
            by_cases hql : q2 < k12.length
            · obtain ⟨gk, u0, rfl, c0, f0, hnc, hsp'⟩ := hsp.step q2 hql
              have HS := Lib.hid hsp'
              clear hsp hsp'
              have hqi : (q2 : Int) < (k12.length : Int) := by omega
              go_wp2_with fail
              exact ⟨⟨q2 + 1, by simp, by omega, HS.out⟩, by simp only [intOf]; omega⟩
            · have hg := hsp.2
              have HT14 := Lib.hid (HT13.out.spoil hg (own_row HO12'.out))
              have HB14 := Lib.hid (HB13.out.grown hg HB13.out.size (fun j hj => (HLB.out j hj).1))
              have HO14 := Lib.hid (HO13.out.grownOther hg (by
                cases hv : v13.ownBlock with
                | none => exact .inl rfl
                | some j => exact .inr (fun e => by have h1 := (HLB.out j e.symm).2; have h2 := HLC.out j hv; omega)))
              clear hg hsp HT13 HB13 HO13 HO12' HLB HLC
              go_wp2_with fail
              refine (HT14.out.keys1 HKK.out.1).mono ?_
              rintro e w15 ⟨v15, rfl, ho15, b15⟩
              have HT15 := Lib.hid (HT14.out.below b15)
              have HB15 := Lib.hid (HB14.out.trans (b15.mono HB14.out.size))
              have HO15 := Lib.hid (HO14.out.below b15)
              have HR15 := Lib.hid ho15
              clear b15 ho15 HT14 HB14 HO14
              go_wp2_with fail
              refine (HT15.out.keys2 HKK.out.2.1).mono ?_
              rintro e w16 ⟨v16, rfl, ho16, b16⟩
              have HT16 := Lib.hid (HT15.out.below b16)
              have HB16 := Lib.hid (HB15.out.trans (b16.mono HB15.out.size))
              have HO16 := Lib.hid (HO15.out.below b16)
              have HR16 := Lib.hid (SlR.of_owns (HR15.out.below b16))
              have HQ16 := Lib.hid (SlR.of_owns ho16)
              clear b16 ho16 HT15 HB15 HO15 HR15
              go_wp2_with fail
              refine (eqStr_any v15 v16 kk kk _ HR16.out HQ16.out (by omega) (by omega)).mono ?_
              rintro e w17 ⟨rfl, rfl⟩
              have hst : SameTexts kk kk = true := decide_eq_true rfl
              rw [hst]
              clear hst
              go_wp2_with fail
              refine (HT16.out.keysB).mono ?_
              rintro e w18 ⟨v18, k18, rfl, ho18, hk18, b18⟩
              obtain rfl := HK13.out.eq hk18
              have hl13 := hk18.2.1
              have HO18 := Lib.hid (SlR.of_owns ho18)
              have HQ18 := Lib.hid (SlR.of_owns (HO16.out.below b18))
              have HB18 := Lib.hid (HB16.out.trans (b18.mono HB16.out.size))
              clear ho18 hk18 b18 HT16 HB16 HO16 HR16 HQ16 HK13
              go_wp2_with fail
              refine (eqStr_any v18 v13 k13 k13 _ HO18.out HQ18.out (by omega) (by omega)).mono ?_
              rintro e w19 ⟨rfl, rfl⟩
              have hst : SameTexts k13 k13 = true := decide_eq_true rfl
              rw [hst]
              clear hst
              go_wp2_with fail
              go_ret
              exact ⟨rfl, HB18.out⟩
end Bk
end Go.Proofs.Ythhhlaoiampinaa
namespace Go.Proofs.Ythhhlaoiampinaa.Frame
open Go.ChangeShapes Go.WideShapes Go.ChangeAt Go.RowKit
open Go.ChangeMaps (open_string shut_string)

theorem own : ownKnob Try.prog.godebug = none := by kernel_rfl
theorem laidOut : laidOutB Try.prog = true := by kernel_rfl

section
variable {H : Type} {enc : TypeId × Value → H} {P : Program}

theorem trodAll_below (hl : laidOutB P = true) {W W' : World} (bel : Below W.heap.size W W') :
    ∀ (ts : List TypeId) (vs : List Value) (ds : List (DataW H)) (ps : List MemPlace), (∀ t ∈ ts, P.readableRec t = true ∧ t < P.types.size) →
      DataW.TrodAll enc P W 0 (fun _ => true) true ts vs ds ps → (∀ x ∈ ps, x.block < W.heap.size) → DataW.TrodAll enc P W' 0 (fun b => decide (b < W.heap.size)) true ts vs ds ps
  | [], vs, ds, ps, _, h, _ => by
    obtain ⟨rfl, rfl, rfl⟩ := trodAll_nil h
    exact trodAll_mk0
  | t :: ts, vs, ds, ps, ht, h, hlt => by
    obtain ⟨v, vs', d, ds', p, q, rfl, rfl, rfl, h0, r0⟩ := trodAll_cons h
    have a := ht t (by simp)
    exact trodAll_cons_mk (Below.trod hl a.1 a.2 h0 bel (fun x hx => hlt x (List.mem_append_left _ hx)))
      (trodAll_below hl bel ts vs' ds' q (fun t' h' => ht t' (by simp [h'])) r0 (fun x hx => hlt x (List.mem_append_right _ hx)))

/-- THE CLOSE. -/
theorem close {f : Func} {s : ChangeSpec} {W W' : World} {args : Array Value} {ds : List (DataW H)} {before : List MemPlace} {tb : TypeId} (hl : laidOutB P = true)
    (hub : P.underlying tb = some .bool) (hr : f.resultTypes = #[tb]) (hro : ∀ t ∈ f.params.toList, P.readableRec t = true ∧ t < P.types.size)
    (hvs : s.vars = []) (hW : DataW.Whole enc P f.params.toList s.vars false W args.toList ds [] before)
    (h1 : (s.fn H (ds ++ [])).results = [.lit (.bool true)]) (h2 : (s.fn H (ds ++ [])).args = ds) (h3 : (s.fn H (ds ++ [])).vars = []) (bel : Below W.heap.size W W') :
    ∃ v, Ending.returned (.bool true) = .returned v ∧ s.post enc P f false true false false W args v W' := by
  have hlt : ∀ x ∈ before, x.block < W.heap.size := fun x hx => hW.lt x hx
  have hW2 := hW
  obtain ⟨p, q, hA, hV, hb, _, _⟩ := hW
  rw [hvs] at hV
  obtain ⟨_, rfl⟩ := trodVars_none hV
  have hA' := trodAll_below hl bel _ _ _ _ hro hA (fun x hx => hlt x (by rw [hb]; exact List.mem_append_left _ hx))
  refine ⟨_, rfl, ds, [], before, [], p, [], hW2, ?_, ?_, ?_, ?_, fun h => by cases h⟩
  · rw [hr, h1]
    exact trodAll_mk1 (shut_bool hub _)
  · rw [h2]; exact hA'
  · rw [hvs, h3]; rfl
  · exact bel.frame _
end
end Go.Proofs.Ythhhlaoiampinaa.Frame
namespace Go.Proofs.Ythhhlaoiampinaa
open Go.ChangeShapes Go.WideShapes Go.Deep Go.RowKit Go.Joins
namespace Bulk
variable {H : Type}
theorem pos (d : DataW H) : 1 ≤ Rows.uptoBulk d := by
  cases d with
  | lit l => cases l <;> simp [Rows.uptoBulk]
  | _ => simp [Rows.uptoBulk]
theorem mem_le {d : DataW H} : ∀ {l : List (DataW H)}, d ∈ l → Rows.uptoBulk d ≤ Rows.uptoBulkAll l
  | x :: r, h => by
    simp only [Rows.uptoBulkAll]
    rcases List.mem_cons.1 h with rfl | h
    · omega
    · have := mem_le h; omega
theorem len_le : ∀ (l : List (DataW H)), l.length ≤ Rows.uptoBulkAll l
  | [] => by simp
  | x :: r => by have := len_le r; have := pos x; simp only [Rows.uptoBulkAll, List.length_cons]; omega
theorem small {l : List (DataW H)} (h : Rows.uptoSmall H l = true) : Rows.uptoBulkAll l ≤ 1048576 := of_decide_eq_true h
theorem of_mem {d : DataW H} {l : List (DataW H)} (h : Rows.uptoSmall H l = true) (hm : d ∈ l) : Rows.uptoBulk d ≤ 1048576 := Nat.le_trans (mem_le hm) (small h)
theorem str (l : List UInt8) : Rows.uptoBulk (DataW.lit (H := H) (.string l)) = l.length + 1 := by simp [Rows.uptoBulk]
theorem slice_le (a b : List (DataW H)) : Rows.uptoBulkAll a ≤ Rows.uptoBulk (.slice a b) := by simp only [Rows.uptoBulk]; omega
theorem agg_eq (a : List (DataW H)) : Rows.uptoBulk (.agg a) = Rows.uptoBulkAll a + 1 := by simp only [Rows.uptoBulk]
theorem all_append (a b : List (DataW H)) : Rows.uptoBulkAll (a ++ b) = Rows.uptoBulkAll a + Rows.uptoBulkAll b := by
  induction a with
  | nil => simp [Rows.uptoBulkAll]
  | cons x a ih => simp only [List.cons_append, Rows.uptoBulkAll, ih]; omega
/-- The weights of a list's elements, together. -/
theorem sum_le {α : Type} (wt : α → Nat) (D : Nat → DataW H) (xs : List α) (h : ∀ i (hi : i < xs.length), wt xs[i] ≤ Rows.uptoBulk (D i)) : (xs.map wt).sum ≤ Rows.uptoBulkAll ((List.range xs.length).map D) := by
  have : ∀ n, n ≤ xs.length → ((xs.take n).map wt).sum ≤ Rows.uptoBulkAll ((List.range n).map D) := by
    intro n
    induction n with
    | zero => intro _; simp
    | succ n ih =>
      intro hn
      have i := ih (by omega)
      have e : xs.take (n + 1) = xs.take n ++ [xs[n]] := by rw [List.take_add_one, List.getElem?_eq_getElem (by omega)]; rfl
      rw [e, List.range_succ, List.map_append, List.map_append, List.sum_append, all_append]
      have := h n (by omega)
      simp only [List.map_cons, List.map_nil, List.sum_cons, List.sum_nil, Rows.uptoBulkAll]
      omega
  have := this xs.length (Nat.le_refl _)
  rwa [List.take_of_length_le (Nat.le_refl _)] at this
end Bulk

section
variable {H : Type} {enc : TypeId × Value → H} {P : Program} {w : World} {base : Nat} {spare : Nat → Bool} {held : Bool}
/-- A slice of texts. -/
theorem open_texts {r : Reach} {b0 : Nat} {t e : TypeId} {v : Value} {d : DataW H} {p : List MemPlace} (ht : P.underlying t = some (.slice e)) (he : P.underlying e = some .string) (hC : P.cellsOf e = 1)
    (hv : Value.okWide P w r b0 t v) (h : DataW.Trod enc P w base spare held t v d p) (hb : Rows.uptoBulk d ≤ 1048576) : ∃ xs : List ByteArray, SlR w es v xs ∧ (xs.map (fun x => x.size + 1)).sum ≤ 1048576 := by
  obtain ⟨A, len, cap, rfl⟩ := okWide_slice ht hv
  obtain ⟨fuel, hf⟩ := h
  rcases open_slice ht hf with ⟨hcs, _⟩ | ⟨a, len', cap', m, n, D, Pl, hcs, _, hl, hm, hmm, hx, hi⟩
  · simp [Value.cells] at hcs
    obtain ⟨rfl, rfl, rfl⟩ := hcs
    exact ⟨[], SlR.nil _ _, by simp⟩
  · simp [Value.cells] at hcs
    obtain ⟨rfl, rfl, rfl⟩ := hcs
    have hlm : len ≤ m := by rw [hmm]; split <;> omega
    obtain ⟨xs, hxl, hs, hR⟩ := slr_of (w := w) (en := es) (size := 1) (a := a) (len := len) (cap := cap) (fun i x => x.size + 1 ≤ Rows.uptoBulk (D i)) (fun _ => rfl) hl (by omega) (fun i hi' => by
      obtain ⟨cs', hc, ht'⟩ := hi i (by omega)
      rw [hC] at hc
      obtain ⟨_, hcl, hat⟩ := World.cells?_some hc
      obtain ⟨s, e0, hy, hz⟩ := DataW.trod_string he ht'
      refine ⟨s, fun j u hu => ?_, ?_⟩
      · have hj : j = 0 := by
          rcases Nat.eq_zero_or_pos j with h0 | h0
          · exact h0
          · rw [List.getElem?_eq_none (by simp [es]; omega)] at hu; cases hu
        subst hj
        have hu' : u = .string s := by simpa [es] using hu.symm
        subst hu'
        have := hat 0 (by omega)
        rw [e0] at this
        rw [← Go.Deep.add_add, hC] at *
        simpa using this
      · simp only [Prod.mk.injEq] at hy
        rw [hy.1, Bulk.str]
        exact Nat.le_refl _)
    refine ⟨xs, hs, ?_⟩
    subst hxl
    have h1 := Bulk.sum_le (fun x => x.size + 1) D xs hR
    have hxx := congrArg Prod.fst hx
    simp only at hxx
    rw [hxx] at hb
    exact Nat.le_trans h1 (Nat.le_trans (Bulk.slice_le _ _) hb)
/-- A slice of structs of the make 'ss'. -/
theorem open_sss {r : Reach} {b0 : Nat} {t e : TypeId} {f0 f1 : Field} {v : Value} {d : DataW H} {p : List MemPlace} (ht : P.underlying t = some (.slice e)) (he : P.underlying e = some (.struct #[f0, f1])) (hone : oneCellFields P #[f0, f1] = true) (hC : P.cellsOf e = 2)
    (h0 : P.underlying f0.type = some .string) (h1 : P.underlying f1.type = some .string) (hv : Value.okWide P w r b0 t v) (h : DataW.Trod enc P w base spare held t v d p) (hb : Rows.uptoBulk d ≤ 1048576) : ∃ xs : List (ByteArray × ByteArray), SlR w e_ss v xs ∧ (xs.map (fun d => d.1.size + d.2.size + 2)).sum ≤ 1048576 := by
  obtain ⟨A, len, cap, rfl⟩ := okWide_slice ht hv
  obtain ⟨fuel, hf⟩ := h
  rcases open_slice_fields ht he hone hC hf with ⟨hcs, _⟩ | ⟨a, len', cap', m, D, Pl, hcs, _, hl, hm, hmm, hx, hi⟩
  · simp [Value.cells] at hcs
    obtain ⟨rfl, rfl, rfl⟩ := hcs
    exact ⟨[], SlR.nil _ _, by simp⟩
  · simp [Value.cells] at hcs
    obtain ⟨rfl, rfl, rfl⟩ := hcs
    have hlm : len ≤ m := by rw [hmm]; split <;> omega
    obtain ⟨xs, hxl, hs, hR⟩ := slr_of (w := w) (en := e_ss) (size := 2) (a := a) (len := len) (cap := cap) (fun i d => d.1.size + d.2.size + 2 ≤ Rows.uptoBulk (D i)) (fun _ => rfl) hl (by omega) (fun i hi' => by
      obtain ⟨ys, n', hD, _, hyl, hfl⟩ := hi i (by omega)
      obtain ⟨v0, y0, c0, g0, t0⟩ := hfl 0 f0 rfl
      obtain ⟨v1, y1, c1, g1, t1⟩ := hfl 1 f1 rfl
      obtain ⟨x0, e0, z0, _⟩ := DataW.trod_string h0 t0
      obtain ⟨x1, e1, z1, _⟩ := DataW.trod_string h1 t1
      simp only [List.cons.injEq, and_true] at e0 e1
      subst e0 e1 z0 z1
      have hys : ys = [_, _] := List.ext_getElem? (l₂ := [(DataW.lit (.string x0.data.toList), []), (DataW.lit (.string x1.data.toList), [])]) (fun j => by
        match j with
        | 0 => exact g0
        | 1 => exact g1
        | j + 2 => rw [List.getElem?_eq_none (by rw [hyl]; simp), List.getElem?_eq_none (by simp)])
      refine ⟨(x0, x1), fun j u hu => ?_, ?_⟩
      · match j, hu with
        | 0, hu => simp only [e_ss, List.getElem?_cons_zero, List.getElem?_cons_succ, Option.some.injEq] at hu; subst hu; exact c0
        | 1, hu => simp only [e_ss, List.getElem?_cons_zero, List.getElem?_cons_succ, Option.some.injEq] at hu; subst hu; exact c1
        | j + 2, hu => simp [e_ss] at hu
      · rw [hD, hys]; simp only [List.map_cons, List.map_nil, Rows.uptoBulk, Rows.uptoBulkAll, ByteArray.size, Array.length_toList]; omega)
    refine ⟨xs, hs, ?_⟩
    · subst hxl
      have h1 := Bulk.sum_le (fun (d : ByteArray × ByteArray) => d.1.size + d.2.size + 2) D xs (fun i hi => hR i hi)
      have hxx := congrArg Prod.fst hx
      simp only at hxx
      rw [hxx] at hb
      exact Nat.le_trans h1 (Nat.le_trans (Bulk.slice_le _ _) hb)
/-- A slice of structs of the make 'sbs'. -/
theorem open_sbss {r : Reach} {b0 : Nat} {t e : TypeId} {f0 f1 f2 : Field} {v : Value} {d : DataW H} {p : List MemPlace} (ht : P.underlying t = some (.slice e)) (he : P.underlying e = some (.struct #[f0, f1, f2])) (hone : oneCellFields P #[f0, f1, f2] = true) (hC : P.cellsOf e = 3)
    (h0 : P.underlying f0.type = some .string) (h1 : P.underlying f1.type = some .bool) (h2 : P.underlying f2.type = some .string) (hv : Value.okWide P w r b0 t v) (h : DataW.Trod enc P w base spare held t v d p) (hb : Rows.uptoBulk d ≤ 1048576) : ∃ xs : List (ByteArray × Bool × ByteArray), SlR w e_sbs v xs ∧ (xs.map (fun d => d.1.size + d.2.2.size + 3)).sum ≤ 1048576 := by
  obtain ⟨A, len, cap, rfl⟩ := okWide_slice ht hv
  obtain ⟨fuel, hf⟩ := h
  rcases open_slice_fields ht he hone hC hf with ⟨hcs, _⟩ | ⟨a, len', cap', m, D, Pl, hcs, _, hl, hm, hmm, hx, hi⟩
  · simp [Value.cells] at hcs
    obtain ⟨rfl, rfl, rfl⟩ := hcs
    exact ⟨[], SlR.nil _ _, by simp⟩
  · simp [Value.cells] at hcs
    obtain ⟨rfl, rfl, rfl⟩ := hcs
    have hlm : len ≤ m := by rw [hmm]; split <;> omega
    obtain ⟨xs, hxl, hs, hR⟩ := slr_of (w := w) (en := e_sbs) (size := 3) (a := a) (len := len) (cap := cap) (fun i d => d.1.size + d.2.2.size + 3 ≤ Rows.uptoBulk (D i)) (fun _ => rfl) hl (by omega) (fun i hi' => by
      obtain ⟨ys, n', hD, _, hyl, hfl⟩ := hi i (by omega)
      obtain ⟨v0, y0, c0, g0, t0⟩ := hfl 0 f0 rfl
      obtain ⟨v1, y1, c1, g1, t1⟩ := hfl 1 f1 rfl
      obtain ⟨v2, y2, c2, g2, t2⟩ := hfl 2 f2 rfl
      obtain ⟨x0, e0, z0, _⟩ := DataW.trod_string h0 t0
      obtain ⟨x1, e1, z1⟩ := DataW.trod_bool h1 t1
      obtain ⟨x2, e2, z2, _⟩ := DataW.trod_string h2 t2
      simp only [List.cons.injEq, and_true] at e0 e1 e2
      subst e0 e1 e2 z0 z1 z2
      have hys : ys = [_, _, _] := List.ext_getElem? (l₂ := [(DataW.lit (.string x0.data.toList), []), (DataW.lit (.bool x1), []), (DataW.lit (.string x2.data.toList), [])]) (fun j => by
        match j with
        | 0 => exact g0
        | 1 => exact g1
        | 2 => exact g2
        | j + 3 => rw [List.getElem?_eq_none (by rw [hyl]; simp), List.getElem?_eq_none (by simp)])
      refine ⟨(x0, x1, x2), fun j u hu => ?_, ?_⟩
      · match j, hu with
        | 0, hu => simp only [e_sbs, List.getElem?_cons_zero, List.getElem?_cons_succ, Option.some.injEq] at hu; subst hu; exact c0
        | 1, hu => simp only [e_sbs, List.getElem?_cons_zero, List.getElem?_cons_succ, Option.some.injEq] at hu; subst hu; exact c1
        | 2, hu => simp only [e_sbs, List.getElem?_cons_zero, List.getElem?_cons_succ, Option.some.injEq] at hu; subst hu; exact c2
        | j + 3, hu => simp [e_sbs] at hu
      · rw [hD, hys]; simp only [List.map_cons, List.map_nil, Rows.uptoBulk, Rows.uptoBulkAll, ByteArray.size, Array.length_toList]; omega)
    refine ⟨xs, hs, ?_⟩
    · subst hxl
      have h1 := Bulk.sum_le (fun (d : ByteArray × Bool × ByteArray) => d.1.size + d.2.2.size + 3) D xs (fun i hi => hR i hi)
      have hxx := congrArg Prod.fst hx
      simp only at hxx
      rw [hxx] at hb
      exact Nat.le_trans h1 (Nat.le_trans (Bulk.slice_le _ _) hb)
/-- A slice of structs of the make 'bs'. -/
theorem open_bss {r : Reach} {b0 : Nat} {t e : TypeId} {f0 f1 : Field} {v : Value} {d : DataW H} {p : List MemPlace} (ht : P.underlying t = some (.slice e)) (he : P.underlying e = some (.struct #[f0, f1])) (hone : oneCellFields P #[f0, f1] = true) (hC : P.cellsOf e = 2)
    (h0 : P.underlying f0.type = some .bool) (h1 : P.underlying f1.type = some .string) (hv : Value.okWide P w r b0 t v) (h : DataW.Trod enc P w base spare held t v d p) (hb : Rows.uptoBulk d ≤ 1048576) : ∃ xs : List (Bool × ByteArray), SlR w e_bs v xs ∧ (xs.map (fun d => d.2.size + 2)).sum ≤ 1048576 := by
  obtain ⟨A, len, cap, rfl⟩ := okWide_slice ht hv
  obtain ⟨fuel, hf⟩ := h
  rcases open_slice_fields ht he hone hC hf with ⟨hcs, _⟩ | ⟨a, len', cap', m, D, Pl, hcs, _, hl, hm, hmm, hx, hi⟩
  · simp [Value.cells] at hcs
    obtain ⟨rfl, rfl, rfl⟩ := hcs
    exact ⟨[], SlR.nil _ _, by simp⟩
  · simp [Value.cells] at hcs
    obtain ⟨rfl, rfl, rfl⟩ := hcs
    have hlm : len ≤ m := by rw [hmm]; split <;> omega
    obtain ⟨xs, hxl, hs, hR⟩ := slr_of (w := w) (en := e_bs) (size := 2) (a := a) (len := len) (cap := cap) (fun i d => d.2.size + 2 ≤ Rows.uptoBulk (D i)) (fun _ => rfl) hl (by omega) (fun i hi' => by
      obtain ⟨ys, n', hD, _, hyl, hfl⟩ := hi i (by omega)
      obtain ⟨v0, y0, c0, g0, t0⟩ := hfl 0 f0 rfl
      obtain ⟨v1, y1, c1, g1, t1⟩ := hfl 1 f1 rfl
      obtain ⟨x0, e0, z0⟩ := DataW.trod_bool h0 t0
      obtain ⟨x1, e1, z1, _⟩ := DataW.trod_string h1 t1
      simp only [List.cons.injEq, and_true] at e0 e1
      subst e0 e1 z0 z1
      have hys : ys = [_, _] := List.ext_getElem? (l₂ := [(DataW.lit (.bool x0), []), (DataW.lit (.string x1.data.toList), [])]) (fun j => by
        match j with
        | 0 => exact g0
        | 1 => exact g1
        | j + 2 => rw [List.getElem?_eq_none (by rw [hyl]; simp), List.getElem?_eq_none (by simp)])
      refine ⟨(x0, x1), fun j u hu => ?_, ?_⟩
      · match j, hu with
        | 0, hu => simp only [e_bs, List.getElem?_cons_zero, List.getElem?_cons_succ, Option.some.injEq] at hu; subst hu; exact c0
        | 1, hu => simp only [e_bs, List.getElem?_cons_zero, List.getElem?_cons_succ, Option.some.injEq] at hu; subst hu; exact c1
        | j + 2, hu => simp [e_bs] at hu
      · rw [hD, hys]; simp only [List.map_cons, List.map_nil, Rows.uptoBulk, Rows.uptoBulkAll, ByteArray.size, Array.length_toList]; omega)
    refine ⟨xs, hs, ?_⟩
    · subst hxl
      have h1 := Bulk.sum_le (fun (d : Bool × ByteArray) => d.2.size + 2) D xs (fun i hi => hR i hi)
      have hxx := congrArg Prod.fst hx
      simp only at hxx
      rw [hxx] at hb
      exact Nat.le_trans h1 (Nat.le_trans (Bulk.slice_le _ _) hb)
/-- A slice of structs of the make 'ii'. -/
theorem open_iis {r : Reach} {b0 : Nat} {t e : TypeId} {f0 f1 : Field} {v : Value} {d : DataW H} {p : List MemPlace} (ht : P.underlying t = some (.slice e)) (he : P.underlying e = some (.struct #[f0, f1])) (hone : oneCellFields P #[f0, f1] = true) (hC : P.cellsOf e = 2)
    (h0 : P.underlying f0.type = some (.int .i64)) (h1 : P.underlying f1.type = some (.int .i64)) (hv : Value.okWide P w r b0 t v) (h : DataW.Trod enc P w base spare held t v d p) (hb : Rows.uptoBulk d ≤ 1048576) : ∃ xs : List (Int × Int), SlR w e_ii v xs ∧ (xs.map (fun d => 2)).sum ≤ 1048576 ∧ ∀ d ∈ xs, (Lit.int .i64 d.1).wf = true ∧ (Lit.int .i64 d.2).wf = true := by
  obtain ⟨A, len, cap, rfl⟩ := okWide_slice ht hv
  obtain ⟨fuel, hf⟩ := h
  rcases open_slice_fields ht he hone hC hf with ⟨hcs, _⟩ | ⟨a, len', cap', m, D, Pl, hcs, _, hl, hm, hmm, hx, hi⟩
  · simp [Value.cells] at hcs
    obtain ⟨rfl, rfl, rfl⟩ := hcs
    exact ⟨[], SlR.nil _ _, by simp, by simp⟩
  · simp [Value.cells] at hcs
    obtain ⟨rfl, rfl, rfl⟩ := hcs
    have hlm : len ≤ m := by rw [hmm]; split <;> omega
    obtain ⟨xs, hxl, hs, hR⟩ := slr_of (w := w) (en := e_ii) (size := 2) (a := a) (len := len) (cap := cap) (fun i d => 2 ≤ Rows.uptoBulk (D i) ∧ (Lit.int .i64 d.1).wf = true ∧ (Lit.int .i64 d.2).wf = true) (fun _ => rfl) hl (by omega) (fun i hi' => by
      obtain ⟨ys, n', hD, _, hyl, hfl⟩ := hi i (by omega)
      obtain ⟨v0, y0, c0, g0, t0⟩ := hfl 0 f0 rfl
      obtain ⟨v1, y1, c1, g1, t1⟩ := hfl 1 f1 rfl
      obtain ⟨x0, e0, z0, w0⟩ := DataW.trod_int h0 t0
      obtain ⟨x1, e1, z1, w1⟩ := DataW.trod_int h1 t1
      simp only [List.cons.injEq, and_true] at e0 e1
      subst e0 e1 z0 z1
      have hys : ys = [_, _] := List.ext_getElem? (l₂ := [(DataW.lit (.int .i64 x0), []), (DataW.lit (.int .i64 x1), [])]) (fun j => by
        match j with
        | 0 => exact g0
        | 1 => exact g1
        | j + 2 => rw [List.getElem?_eq_none (by rw [hyl]; simp), List.getElem?_eq_none (by simp)])
      refine ⟨(x0, x1), fun j u hu => ?_, ?_⟩
      · match j, hu with
        | 0, hu => simp only [e_ii, List.getElem?_cons_zero, List.getElem?_cons_succ, Option.some.injEq] at hu; subst hu; exact c0
        | 1, hu => simp only [e_ii, List.getElem?_cons_zero, List.getElem?_cons_succ, Option.some.injEq] at hu; subst hu; exact c1
        | j + 2, hu => simp [e_ii] at hu
      · rw [hD, hys]; simp only [List.map_cons, List.map_nil, Rows.uptoBulk, Rows.uptoBulkAll, ByteArray.size, Array.length_toList]; exact ⟨by omega, w0, w1⟩)
    refine ⟨xs, hs, ?_, fun d hd => ?_⟩
    · subst hxl
      have h1 := Bulk.sum_le (fun (d : Int × Int) => 2) D xs (fun i hi => (hR i hi).1)
      have hxx := congrArg Prod.fst hx
      simp only at hxx
      rw [hxx] at hb
      exact Nat.le_trans h1 (Nat.le_trans (Bulk.slice_le _ _) hb)
    · obtain ⟨i, hi, rfl⟩ := List.getElem_of_mem hd
      exact (hR i hi).2
end
end Go.Proofs.Ythhhlaoiampinaa
