/- The directives of fields: what control's Parse makes of them. -/
import Derived.Test.YtiijgbgknolmcaaFieldG
import Derived.Test.YtiijgbgknolmcaaCtlE
import Derived.Test.YtiijgbgknolmcaaCtlA
namespace Go.Proofs.Ytiijgbgknolmcaa
set_option maxRecDepth 20000
open Go.RowKit
namespace Dp
def txt (l : List Fld) (n : ByteArray) : ByteArray := joinS (selF l n) sep2
def isR (l : List Fld) (n : ByteArray) : Bool := decide (0 < (selF l n).length)
/-- The directives of a text. -/
def allSome {α : Type} : List (Option α) → Option (List α)
  | [] => some []
  | none :: _ => none
  | some x :: l => match allSome l with | some r => some (x :: r) | none => none
theorem allSome_map {α : Type} : ∀ (ds : List α), allSome (ds.map some) = some ds
  | [] => rfl
  | d :: ds => by rw [List.map_cons, allSome, allSome_map ds]
theorem allSome_some {α : Type} : ∀ {l : List (Option α)} {ds : List α}, allSome l = some ds → l = ds.map some
  | [], ds, h => by simp only [allSome, Option.some.injEq] at h; subst h; rfl
  | none :: l, ds, h => by simp [allSome] at h
  | some x :: l, ds, h => by
    rw [allSome] at h
    cases hl : allSome l with
    | none => rw [hl] at h; cases h
    | some r =>
      rw [hl] at h
      simp only [Option.some.injEq] at h
      subst h
      rw [List.map_cons, allSome_some hl]
theorem dirD_size {p : ByteArray} {d : Dr} (h : dirD p = some d) : d.1.size ≤ p.size ∧ d.2.2.size ≤ p.size := by
  have hb : ∀ (l a b : List UInt8), cutAt 61 l = some (a, b) → a.length ≤ l.length ∧ b.length ≤ l.length := by
    intro l
    induction l with
    | nil => intro a b h; cases h
    | cons c l ih =>
      intro a b h
      unfold cutAt at h
      split at h
      · injection h with h; injection h with h1 h; subst h1; subst h; simp
      · obtain ⟨⟨x, y⟩, hx, he⟩ := Option.map_eq_some_iff.1 h
        injection he with h1 he; subst he; subst h1
        have := ih _ _ hx
        simp only [List.length_cons]; omega
  have hl : ∀ n : ByteArray, (lowT n).size = n.size := fun n => by unfold lowT; rw [mkS_size, Tok.low_len, sl_len]
  unfold dirD at h
  cases hc : cutAt 61 (sl p) with
  | none =>
    rw [hc] at h
    dsimp only at h
    split at h
    · injection h with h; subst h
      exact ⟨Nat.le_of_eq (hl p), Nat.zero_le _⟩
    · cases h
  | some ab =>
    obtain ⟨a, b⟩ := ab
    rw [hc] at h
    dsimp only at h
    have hz := hb _ _ _ hc
    rw [sl_len] at hz
    split at h
    · split at h
      · injection h with h; subst h
        dsimp only
        rw [hl, mkS_size, mkS_size]; exact hz
      · obtain ⟨u, hu, rfl⟩ := Option.map_eq_some_iff.1 h
        have h1 := (Tok.unquote_some hu).1
        have h2 := escs_ge u
        simp [Tok.quoteL] at h1
        dsimp only
        rw [hl, mkS_size, mkS_size]; omega
    · cases h
theorem mem_dirs {ps : List ByteArray} {ds : List Dr} (h : ps.map dirD = ds.map some) (n : Nat) (hp : ∀ p ∈ ps, p.size ≤ n) : ∀ d ∈ ds, d.1.size ≤ n ∧ d.2.2.size ≤ n := by
  intro d hd
  have : some d ∈ ds.map some := List.mem_map.2 ⟨d, hd, rfl⟩
  rw [← h] at this
  obtain ⟨p, hpp, hpd⟩ := List.mem_map.1 this
  have h1 := dirD_size hpd
  have h2 := hp p hpp
  omega
def dirsOf (s : ByteArray) : Option (List Dr) := match Tok.splitL (sl s) with | .error _ => none | .ok ps => allSome ((ps.map mkS).map dirD)
def nCC : ByteArray := ⟨#[67, 97, 99, 104, 101, 45, 67, 111, 110, 116, 114, 111, 108]⟩
def nMA : ByteArray := ⟨#[109, 97, 120, 45, 97, 103, 101]⟩

def dirsD (s : ByteArray) : List Dr := match dirsOf s with | some ds => ds | none => []
def dirsF (l : List Fld) : List Dr := dirsD (txt l nCC)
theorem dirsD_ok (s : ByteArray) : (dirsD s).length ≤ 20 ∧ ∀ d ∈ dirsD s, d.1.size ≤ 1000 ∧ d.2.2.size ≤ 1000 := by
  unfold dirsD
  split
  · rename_i ds h
    unfold dirsOf at h
    split at h
    · cases h
    · rename_i ps hp
      obtain ⟨h1, h2, -⟩ := Tok.split_short hp
      have h3 := allSome_some h
      refine ⟨?_, ?_⟩
      · have := congrArg List.length h3
        simp only [List.length_map] at this
        omega
      · exact mem_dirs h3 1000 (fun p hpp => by
          obtain ⟨q, hq, rfl⟩ := List.mem_map.1 hpp
          rw [mkS_size]; exact h1 q hq)
  · exact ⟨by simp, by simp⟩
def hasD (l : List Dr) (n : ByteArray) : Bool := (findD l n).isSome
theorem parseD_any (s : ByteArray) (w : World) (hs : s.size ≤ 140737488351232) :
    Calls Try.prog 30 #[.string s] w fun e w' => (∃ v c, e = .returned (.tuple #[v, .int .i64 c]) ∧ SlR w' e_sbs v (dirsD s) ∧ (c = 0 ↔ ∃ ds, dirsOf s = some ds)) ∧ Below w.heap.size w w' := by
  refine (parse_any s w hs).mono ?_
  rintro e w' ⟨ha, hb⟩
  refine ⟨?_, hb⟩
  rcases ha with ⟨ps, ds, v, h1, h2, rfl, ho⟩ | ⟨c, hc1, hc2, rfl, h3, h4⟩
  · have hd : dirsOf s = some ds := by unfold dirsOf; rw [h1]; dsimp only; rw [h2, allSome_map]
    refine ⟨v, 0, rfl, ?_, fun _ => ⟨ds, hd⟩, fun _ => rfl⟩
    unfold dirsD
    rw [hd]
    exact SlR.of_owns ho
  · have hd : dirsOf s = none := by
      unfold dirsOf
      cases hsp : Tok.splitL (sl s) with
      | error c' => rfl
      | ok ps =>
        dsimp only
        cases has : allSome ((ps.map mkS).map dirD) with
        | none => rfl
        | some ds => exact absurd (allSome_some has) (fun h => h3 ps ds hsp h)
    refine ⟨_, c, rfl, ?_, ?_⟩
    · unfold dirsD
      rw [hd]
      exact SlR.nil _ _
    · rw [hd]
      constructor
      · intro h; omega
      · rintro ⟨ds, h⟩; cases h
theorem split_nil : Tok.splitL [] = .ok [] := by kernel_rfl
theorem dirsOf_empty : dirsOf ByteArray.empty = some [] := by unfold dirsOf; rw [sl_empty, split_nil]; rfl
theorem dirsF_no {l : List Fld} (h : selF l nCC = []) : dirsF l = [] := by
  have e : txt l nCC = ByteArray.empty := by unfold txt; rw [h]; rfl
  unfold dirsF dirsD
  rw [e, dirsOf_empty]
def youngL : List Fld := [(nCC, ⟨#[109, 97, 120, 45, 97, 103, 101, 61, 54, 48]⟩)]
theorem young_dirs : dirsF youngL = [(nMA, true, ⟨#[54, 48]⟩)] := by kernel_rfl
end Dp
end Go.Proofs.Ytiijgbgknolmcaa
