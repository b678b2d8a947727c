/- fresh: the plain law. -/
import Derived.Test.YtiijgbgknolmcaaDoorFieldG
import Derived.Test.YtiijgbgknolmcaaDoorDatS
import Derived.Test.YtiijgbgknolmcaaDoorCtlE
import Derived.Test.YtiijgbgknolmcaaDoorCtlA
namespace Go.Proofs.YtiijgbgknolmcaaDoor
set_option maxRecDepth 20000
open Go.RowKit
namespace Fr
/-- What Get answers. -/
def txt (l : List Fld) (n : ByteArray) : ByteArray := joinS (selF l n) sep2
def isR (l : List Fld) (n : ByteArray) : Bool := decide (0 < (selF l n).length)
/-- D reads texts as dates. -/
def IsDate (D : ByteArray → Option Nat) : Prop := ∀ s, (∃ n, n ≤ 253402300799 ∧ D s = some n ∧ s = mkS (Dt.printD n)) ∨ (D s = none ∧ ∀ n, n ≤ 253402300799 → s ≠ mkS (Dt.printD n))
theorem isDate_ex : ∃ D, IsDate D := by
  have h : ∀ s : ByteArray, ∃ r : Option Nat, (∃ n, n ≤ 253402300799 ∧ r = some n ∧ s = mkS (Dt.printD n)) ∨ (r = none ∧ ∀ n, n ≤ 253402300799 → s ≠ mkS (Dt.printD n)) := by
    intro s
    by_cases h : ∃ n, n ≤ 253402300799 ∧ s = mkS (Dt.printD n)
    · obtain ⟨n, hn, h⟩ := h
      exact ⟨some n, .inl ⟨n, hn, rfl, h⟩⟩
    · exact ⟨none, .inr ⟨rfl, fun n hn h' => h ⟨n, hn, h'⟩⟩⟩
  exact ⟨fun s => Classical.choose (h s), fun s => Classical.choose_spec (h s)⟩
theorem IsDate.le {D : ByteArray → Option Nat} (h : IsDate D) {s : ByteArray} {n : Nat} (hs : D s = some n) : n ≤ 253402300799 := by
  rcases h s with ⟨m, hm, h1, _⟩ | ⟨h1, _⟩
  · rw [h1] at hs; injection hs with hs; omega
  · rw [h1] at hs; cases hs
theorem IsDate.print {D : ByteArray → Option Nat} (h : IsDate D) {n : Nat} (hn : n ≤ 253402300799) : D (mkS (Dt.printD n)) = some n := by
  rcases h (mkS (Dt.printD n)) with ⟨m, hm, h1, h2⟩ | ⟨_, h1⟩
  · have := congrArg sl h2
    rw [sl_mkS, sl_mkS] at this
    rw [h1, printD_inj hn hm this]
  · exact absurd rfl (h1 n hn)
theorem IsDate.empty {D : ByteArray → Option Nat} (h : IsDate D) : D ByteArray.empty = none := by
  rcases h ByteArray.empty with ⟨m, hm, h1, h2⟩ | ⟨h1, _⟩
  · have := congrArg ByteArray.size h2
    rw [mkS_size, printD_len' m hm] at this
    cases this
  · exact h1
/-- The directives of a text. -/
def allSome {α : Type} : List (Option α) → Option (List α)
  | [] => some []
  | none :: _ => none
  | some x :: l => match allSome l with | some r => some (x :: r) | none => none
theorem allSome_map {α : Type} : ∀ (ds : List α), allSome (ds.map some) = some ds
  | [] => rfl
  | d :: ds => by rw [List.map_cons, allSome, allSome_map ds]
theorem allSome_some {α : Type} : ∀ {l : List (Option α)} {ds : List α}, allSome l = some ds → l = ds.map some
  | [], ds, h => by simp only [allSome, Option.some.injEq] at h; subst h; rfl
  | none :: l, ds, h => by simp [allSome] at h
  | some x :: l, ds, h => by
    rw [allSome] at h
    cases hl : allSome l with
    | none => rw [hl] at h; cases h
    | some r =>
      rw [hl] at h
      simp only [Option.some.injEq] at h
      subst h
      rw [List.map_cons, allSome_some hl]
theorem dirD_size {p : ByteArray} {d : Dr} (h : dirD p = some d) : d.1.size ≤ p.size ∧ d.2.2.size ≤ p.size := by
  have hb : ∀ (l a b : List UInt8), cutAt 61 l = some (a, b) → a.length ≤ l.length ∧ b.length ≤ l.length := by
    intro l
    induction l with
    | nil => intro a b h; cases h
    | cons c l ih =>
      intro a b h
      unfold cutAt at h
      split at h
      · injection h with h; injection h with h1 h; subst h1; subst h; simp
      · obtain ⟨⟨x, y⟩, hx, he⟩ := Option.map_eq_some_iff.1 h
        injection he with h1 he; subst he; subst h1
        have := ih _ _ hx
        simp only [List.length_cons]; omega
  have hl : ∀ n : ByteArray, (lowT n).size = n.size := fun n => by unfold lowT; rw [mkS_size, Tok.low_len, sl_len]
  unfold dirD at h
  cases hc : cutAt 61 (sl p) with
  | none =>
    rw [hc] at h
    dsimp only at h
    split at h
    · injection h with h; subst h
      exact ⟨Nat.le_of_eq (hl p), Nat.zero_le _⟩
    · cases h
  | some ab =>
    obtain ⟨a, b⟩ := ab
    rw [hc] at h
    dsimp only at h
    have hz := hb _ _ _ hc
    rw [sl_len] at hz
    split at h
    · split at h
      · injection h with h; subst h
        dsimp only
        rw [hl, mkS_size, mkS_size]; exact hz
      · obtain ⟨u, hu, rfl⟩ := Option.map_eq_some_iff.1 h
        have h1 := (Tok.unquote_some hu).1
        have h2 := escs_ge u
        simp [Tok.quoteL] at h1
        dsimp only
        rw [hl, mkS_size, mkS_size]; omega
    · cases h
theorem mem_dirs {ps : List ByteArray} {ds : List Dr} (h : ps.map dirD = ds.map some) (n : Nat) (hp : ∀ p ∈ ps, p.size ≤ n) : ∀ d ∈ ds, d.1.size ≤ n ∧ d.2.2.size ≤ n := by
  intro d hd
  have : some d ∈ ds.map some := List.mem_map.2 ⟨d, hd, rfl⟩
  rw [← h] at this
  obtain ⟨p, hpp, hpd⟩ := List.mem_map.1 this
  have h1 := dirD_size hpd
  have h2 := hp p hpp
  omega
def dirsOf (s : ByteArray) : Option (List Dr) := match Tok.splitL (sl s) with | .error _ => none | .ok ps => allSome ((ps.map mkS).map dirD)
def nCC : ByteArray := ⟨#[67, 97, 99, 104, 101, 45, 67, 111, 110, 116, 114, 111, 108]⟩
def nDate : ByteArray := ⟨#[68, 97, 116, 101]⟩
def nSM : ByteArray := ⟨#[115, 45, 109, 97, 120, 97, 103, 101]⟩
def nMA : ByteArray := ⟨#[109, 97, 120, 45, 97, 103, 101]⟩
def nExp : ByteArray := ⟨#[69, 120, 112, 105, 114, 101, 115]⟩
def nLM : ByteArray := ⟨#[76, 97, 115, 116, 45, 77, 111, 100, 105, 102, 105, 101, 100]⟩
def nAge : ByteArray := ⟨#[65, 103, 101]⟩
def nage : ByteArray := ⟨#[97, 103, 101]⟩
def nMR : ByteArray := ⟨#[109, 117, 115, 116, 45, 114, 101, 118, 97, 108, 105, 100, 97, 116, 101]⟩
def nPR : ByteArray := ⟨#[112, 114, 111, 120, 121, 45, 114, 101, 118, 97, 108, 105, 100, 97, 116, 101]⟩
def nNC : ByteArray := ⟨#[110, 111, 45, 99, 97, 99, 104, 101]⟩
def nMF : ByteArray := ⟨#[109, 105, 110, 45, 102, 114, 101, 115, 104]⟩
def nOC : ByteArray := ⟨#[111, 110, 108, 121, 45, 105, 102, 45, 99, 97, 99, 104, 101, 100]⟩
def nMS : ByteArray := ⟨#[109, 97, 120, 45, 115, 116, 97, 108, 101]⟩
def dirsD (s : ByteArray) : List Dr := match dirsOf s with | some ds => ds | none => []
def dirsF (l : List Fld) : List Dr := dirsD (txt l nCC)
theorem dirsD_ok (s : ByteArray) : (dirsD s).length ≤ 20 ∧ ∀ d ∈ dirsD s, d.1.size ≤ 1000 ∧ d.2.2.size ≤ 1000 := by
  unfold dirsD
  split
  · rename_i ds h
    unfold dirsOf at h
    split at h
    · cases h
    · rename_i ps hp
      obtain ⟨h1, h2, -⟩ := Tok.split_short hp
      have h3 := allSome_some h
      refine ⟨?_, ?_⟩
      · have := congrArg List.length h3
        simp only [List.length_map] at this
        omega
      · exact mem_dirs h3 1000 (fun p hpp => by
          obtain ⟨q, hq, rfl⟩ := List.mem_map.1 hpp
          rw [mkS_size]; exact h1 q hq)
  · exact ⟨by simp, by simp⟩
def within (n : Int) : Int := min (max n 0) 2147483648
def isTime (n : Int) : Int := min (max n 0) 253402300799
def told (D : ByteArray → Option Nat) (l : List Fld) (n : ByteArray) : Option Nat := if isR l n = true then D (txt l n) else none
def dated (D : ByteArray → Option Nat) (l : List Fld) (came : Int) : Int := match told D l nDate with | some n => (n : Int) | none => isTime came
def guessed (c : Int) : Bool := ([200, 203, 204, 300, 301, 308, 404, 405, 410, 414, 501] : List Int).contains c
def lifeF (D : ByteArray → Option Nat) (l : List Fld) (code came : Int) : Int :=
  if (secD (dirsF l) nSM).2 = true then ((secD (dirsF l) nSM).1 : Int) else
  if (secD (dirsF l) nMA).2 = true then ((secD (dirsF l) nMA).1 : Int) else
  if isR l nExp = true then (match told D l nExp with | some n => within ((n : Int) - dated D l came) | none => 0) else
  match told D l nLM with
  | some n => if guessed code = true then within ((dated D l came - (n : Int)).tdiv 10) else 0
  | none => 0
def ageF (D : ByteArray → Option Nat) (l : List Fld) (came asked now : Int) : Int :=
  within (max (max (isTime came - dated D l came) 0) ((secs 0 (sl (txt l nAge)) : Int) + max (isTime came - isTime asked) 0) + max (isTime now - isTime came) 0)
def hasD (l : List Dr) (n : ByteArray) : Bool := (findD l n).isSome
def staleF (asks : List Dr) (k : Int) : Bool := match findD asks nMS with | some d => !d.2.1 || decide (k ≤ (secs 0 (sl d.2.2) : Int)) | none => false
def bnames : List ByteArray := [nMR, nPR, nSM, nNC]
def boundF (says : List Dr) : Bool := bnames.any (fun n => hasD says n)
def tailF (asks : List Dr) : Int := if hasD asks nOC = true then 3 else 2
def useF (asks says : List Dr) (life age : Int) : Int :=
  if hasD asks nNC = true ∨ hasD says nNC = true then tailF asks else
  if (secD asks nMA).2 = true ∧ ((secD asks nMA).1 : Int) < age then tailF asks else
  if (secD asks nMF).2 = true ∧ life - age < ((secD asks nMF).1 : Int) then tailF asks else
  if age < life ∨ (boundF says = false ∧ staleF asks (age - life) = true) then 1 else tailF asks
/-! ### Bounds. -/
theorem within_in (n : Int) : 0 ≤ within n ∧ within n ≤ 2147483648 := by unfold within; omega
theorem isTime_in (n : Int) : 0 ≤ isTime n ∧ isTime n ≤ 253402300799 := by unfold isTime; omega
theorem told_le {D : ByteArray → Option Nat} (hD : IsDate D) {l : List Fld} {n : ByteArray} {k : Nat} (h : told D l n = some k) : k ≤ 253402300799 := by
  unfold told at h
  split at h
  · exact hD.le h
  · cases h
theorem dated_in {D : ByteArray → Option Nat} (hD : IsDate D) (l : List Fld) (came : Int) : 0 ≤ dated D l came ∧ dated D l came ≤ 253402300799 := by
  unfold dated
  cases h : told D l nDate with
  | none => exact isTime_in came
  | some k => have := told_le hD h; dsimp only; omega
theorem lifeF_in (D : ByteArray → Option Nat) (l : List Fld) (code came : Int) : 0 ≤ lifeF D l code came ∧ lifeF D l code came ≤ 2147483648 := by
  have h1 := secD_le (dirsF l) nSM
  have h2 := secD_le (dirsF l) nMA
  unfold lifeF
  split
  · omega
  split
  · omega
  split
  · split
    · exact within_in _
    · omega
  · split
    · split
      · exact within_in _
      · omega
    · omega
theorem tailF_in (asks : List Dr) : tailF asks = 2 ∨ tailF asks = 3 := by unfold tailF; split <;> simp
theorem useF_in (asks says : List Dr) (life age : Int) : 1 ≤ useF asks says life age ∧ useF asks says life age ≤ 3 := by
  have := tailF_in asks
  unfold useF
  repeat' split
  all_goals omega
/-! ### The laws. -/
theorem grows {D : ByteArray → Option Nat} (hD : IsDate D) (l : List Fld) (came asked now n : Int) (h0 : 0 ≤ now) (hn : 0 ≤ n) :
    0 ≤ ageF D l came asked now ∧ ageF D l came asked now ≤ ageF D l came asked (now + n) ∧ ageF D l came asked (now + n) ≤ ageF D l came asked now + n ∧ ageF D l came asked (now + n) ≤ 2147483648 ∧
    (now < isTime came ∨ 253402300799 < now + n ∨ ageF D l came asked (now + n) = min (ageF D l came asked now + n) 2147483648) := by
  have h1 := dated_in hD l came
  have h2 := secs_le (sl (txt l nAge)) 0 (by omega)
  have hc := isTime_in came
  have k0 : 0 ≤ max (isTime now - isTime came) 0 := by omega
  have k1 : max (isTime now - isTime came) 0 ≤ max (isTime (now + n) - isTime came) 0 := by unfold isTime; omega
  have k2 : max (isTime (now + n) - isTime came) 0 ≤ max (isTime now - isTime came) 0 + n := by unfold isTime; omega
  have k3 : isTime came ≤ now → now + n ≤ 253402300799 → max (isTime (now + n) - isTime came) 0 = max (isTime now - isTime came) 0 + n := by
    generalize isTime came = ic at *
    intro h3 h4
    have e1 : isTime now = now := by unfold isTime; omega
    have e2 : isTime (now + n) = now + n := by unfold isTime; omega
    rw [e1, e2]; omega
  have k4 : 0 ≤ max (max (isTime came - dated D l came) 0) ((secs 0 (sl (txt l nAge)) : Int) + max (isTime came - isTime asked) 0) := by omega
  unfold ageF
  generalize max (max (isTime came - dated D l came) 0) ((secs 0 (sl (txt l nAge)) : Int) + max (isTime came - isTime asked) 0) = M at *
  generalize max (isTime now - isTime came) 0 = y1 at *
  generalize max (isTime (now + n) - isTime came) 0 = y2 at *
  generalize isTime came = ic at *
  unfold within
  refine ⟨by omega, by omega, by omega, by omega, ?_⟩
  by_cases h3 : now < ic
  · exact .inl h3
  · by_cases h4 : 253402300799 < now + n
    · exact .inr (.inl h4)
    · right; right
      have := k3 (by omega) (by omega)
      omega
theorem age_mono (D : ByteArray → Option Nat) (l : List Fld) (came asked now n : Int) (hn : 0 ≤ n) : ageF D l came asked now ≤ ageF D l came asked (now + n) := by
  have k1 : max (isTime now - isTime came) 0 ≤ max (isTime (now + n) - isTime came) 0 := by unfold isTime; omega
  unfold ageF
  generalize max (max (isTime came - dated D l came) 0) ((secs 0 (sl (txt l nAge)) : Int) + max (isTime came - isTime asked) 0) = M at *
  generalize max (isTime now - isTime came) 0 = y1 at *
  generalize max (isTime (now + n) - isTime came) 0 = y2 at *
  unfold within
  omega
theorem stale_mono {asks : List Dr} {a b : Int} (h : a ≤ b) (hs : staleF asks b = true) : staleF asks a = true := by
  unfold staleF at *
  split
  · rename_i d hd
    rw [hd] at hs
    dsimp only at hs
    simp only [Bool.or_eq_true, decide_eq_true_eq] at hs ⊢
    rcases hs with hs | hs
    · exact .inl hs
    · exact .inr (by omega)
  · rename_i hd
    rw [hd] at hs
    cases hs
theorem later (asks says : List Dr) (life a b : Int) (h : a ≤ b) : useF asks says life a = 1 ∨ useF asks says life a = useF asks says life b := by
  by_cases hb : useF asks says life b = tailF asks
  · rw [hb]
    unfold useF
    repeat' split
    all_goals first | exact .inr rfl | exact .inl rfl
  · left
    have ht := tailF_in asks
    unfold useF at hb ⊢
    split at hb
    · exact absurd rfl hb
    rename_i h1
    split at hb
    · exact absurd rfl hb
    rename_i h2
    split at hb
    · exact absurd rfl hb
    rename_i h3
    split at hb
    · rename_i h4
      rw [if_neg h1, if_neg (fun hh => h2 ⟨hh.1, by omega⟩), if_neg (fun hh => h3 ⟨hh.1, by omega⟩), if_pos]
      rcases h4 with h4 | ⟨h4, h5⟩
      · exact .inl (by omega)
      · exact .inr ⟨h4, stale_mono (by omega) h5⟩
    · exact absurd rfl hb
theorem useF_nil (says : List Dr) (life age : Int) : useF [] says life age = if hasD says nNC = true then 2 else if age < life then 1 else 2 := by
  unfold useF
  rw [show tailF [] = 2 from rfl, show hasD [] nNC = false from rfl, show secD [] nMA = (0, false) from rfl, show secD [] nMF = (0, false) from rfl, show staleF [] (age - life) = false from rfl]
  simp
theorem split_nil : Tok.splitL [] = .ok [] := by kernel_rfl
theorem dirsOf_empty : dirsOf ByteArray.empty = some [] := by unfold dirsOf; rw [sl_empty, split_nil]; rfl
theorem dirsF_no {l : List Fld} (h : selF l nCC = []) : dirsF l = [] := by
  have e : txt l nCC = ByteArray.empty := by unfold txt; rw [h]; rfl
  unfold dirsF dirsD
  rw [e, dirsOf_empty]
/-! ### A response that is young. -/
def youngL : List Fld := [(nCC, ⟨#[109, 97, 120, 45, 97, 103, 101, 61, 54, 48]⟩)]
theorem young_dirs : dirsF youngL = [(nMA, true, ⟨#[54, 48]⟩)] := by kernel_rfl
theorem young_life (D : ByteArray → Option Nat) : lifeF D youngL 200 1000 = 60 := by
  unfold lifeF
  rw [young_dirs, if_neg (by rw [show secD [(nMA, true, ⟨#[54, 48]⟩)] nSM = (0, false) from by kernel_rfl]; simp), show secD [(nMA, true, ⟨#[54, 48]⟩)] nMA = (60, true) from by kernel_rfl]
  rfl
theorem young_age (D : ByteArray → Option Nat) (now : Int) (h0 : 1000 ≤ now) (h1 : now ≤ 2000) : ageF D youngL 1000 1000 now = now - 1000 := by
  have e1 : dated D youngL 1000 = 1000 := by
    unfold dated told
    rw [show isR youngL nDate = false from by kernel_rfl]
    rfl
  have e2 : secs 0 (sl (txt youngL nAge)) = 0 := by
    rw [show txt youngL nAge = ByteArray.empty from by kernel_rfl]; rfl
  unfold ageF
  rw [e1, e2]
  unfold within isTime
  omega
end Fr
end Go.Proofs.YtiijgbgknolmcaaDoor
