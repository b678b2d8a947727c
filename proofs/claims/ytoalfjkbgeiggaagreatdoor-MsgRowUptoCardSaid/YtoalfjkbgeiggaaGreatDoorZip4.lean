/- strings.Split at one byte. -/
import Derived.Test.YtoalfjkbgeiggaaGreatDoorZShelf
import Derived.Test.YtoalfjkbgeiggaaGreatDoorZip0
import Derived.Lib.Split
import Derived.Test.YtoalfjkbgeiggaaGreatDoorZip3
import Derived.Test.YtoalfjkbgeiggaaGreatDoorZip1
import Derived.Test.YtoalfjkbgeiggaaGreatDoorChecked
import Derived.Handy
import Derived.Lib.Hide
import Derived.WalkLawsBesides
import Derived.Lib.ItoaNum
import Derived.OrdersHeld
import Derived.Deep.RegionWith
import Derived.Below
import Derived.WalkSmall
import Derived.IntWalk
namespace Go.Proofs.YtoalfjkbgeiggaaGreatDoor
open Go.RowKit
/-- The parts between the bytes c. 'cur': what has been read of the part. -/
def sg (c : UInt8) : List UInt8 → List UInt8 → List (List UInt8)
  | cur, [] => [cur]
  | cur, x :: r => if x == c then cur :: sg c [] r else sg c (cur ++ [x]) r
theorem sg_c (c : UInt8) (cur : List UInt8) (x : UInt8) (r : List UInt8) : sg c cur (x :: r) = if x == c then cur :: sg c [] r else sg c (cur ++ [x]) r := rfl
theorem sg_plain {c : UInt8} : ∀ (u cur v : List UInt8), c ∉ u → sg c cur (u ++ v) = sg c (cur ++ u) v
  | [], cur, v, _ => by simp
  | x :: u, cur, v, h => by
    have hc : ¬ (x == c) = true := by rw [beq_iff_eq]; intro e; apply h; simp [e]
    rw [List.cons_append, sg_c, if_neg hc, sg_plain u _ v (fun e => h (by simp [e])), List.append_assoc]; rfl
theorem sg_one {c : UInt8} {u : List UInt8} (h : c ∉ u) : sg c [] u = [u] := by
  have := sg_plain u [] [] h
  rw [List.append_nil, List.nil_append] at this
  rw [this]; rfl
theorem sg_hit {c : UInt8} (u v : List UInt8) (h : c ∉ u) : sg c [] (u ++ c :: v) = u :: sg c [] v := by
  rw [sg_plain u [] _ h, List.nil_append, sg_c, if_pos (by simp)]
theorem sg_ne (c : UInt8) : ∀ (l cur : List UInt8), sg c cur l ≠ []
  | [], cur => by simp [sg]
  | x :: r, cur => by
    rw [sg_c]
    split
    · simp
    · exact sg_ne c r _
theorem joinTail_c (c y : List UInt8) (ys : List (List UInt8)) : Lib.joinTail c (y :: ys) = c ++ y ++ Lib.joinTail c ys := by simp [Lib.joinTail]
theorem joinTail_n (c : List UInt8) : Lib.joinTail c [] = [] := rfl
/-- Joined with c they are the text. -/
theorem sg_join (c : UInt8) : ∀ (l cur : List UInt8), Lib.join (sg c cur l) [c] = cur ++ l
  | [], cur => by show Lib.join [cur] [c] = _; rw [Lib.join_one, List.append_nil]
  | x :: r, cur => by
    rw [sg_c]
    split
    · rename_i hx
      have ih := sg_join c r []
      cases hs : sg c [] r with
      | nil => exact absurd hs (sg_ne c r [])
      | cons y ys =>
        rw [hs] at ih
        rw [Lib.join_cons] at ih
        rw [Lib.join_cons, joinTail_c, List.append_assoc [c] y, ih, beq_iff_eq.1 hx]
        simp
    · rw [sg_join c r _]; simp
theorem sg_no (c : UInt8) : ∀ (l cur : List UInt8), c ∉ cur → ∀ p ∈ sg c cur l, c ∉ p
  | [], cur, h, p, hp => by rw [show sg c cur [] = [cur] from rfl, List.mem_singleton] at hp; rw [hp]; exact h
  | x :: r, cur, h, p, hp => by
    rw [sg_c] at hp
    split at hp
    · rcases List.mem_cons.1 hp with rfl | hp
      · exact h
      · exact sg_no c r [] (by simp) p hp
    · rename_i hx
      refine sg_no c r _ ?_ p hp
      rw [List.mem_append]
      rintro (h1 | h1)
      · exact h h1
      · rw [List.mem_singleton] at h1; exact hx (by simp [h1])
theorem cut_at (c : UInt8) : ∀ l : List UInt8, c ∉ l ∨ ∃ a b, l = a ++ c :: b ∧ c ∉ a
  | [] => .inl (by simp)
  | x :: l => by
    by_cases hx : x = c
    · exact .inr ⟨[], l, by simp [hx], by simp⟩
    · rcases cut_at c l with h | ⟨a, b, rfl, h⟩
      · exact .inl (by simp [h, Ne.symm hx])
      · exact .inr ⟨x :: a, b, rfl, by simp [h, Ne.symm hx]⟩
theorem index_hit1 (c : UInt8) (b : List UInt8) : ∀ a : List UInt8, c ∉ a → Lib.index (a ++ c :: b) [c] = (a.length : Int)
  | [], _ => by
    rw [List.nil_append]
    unfold Lib.index
    rw [if_pos (by simp [List.isPrefixOf])]; rfl
  | x :: a, h => by
    have hx : ¬ c = x := fun e => h (by simp [e])
    have ih := index_hit1 c b a (fun e => h (by simp [e]))
    rw [List.cons_append]
    unfold Lib.index
    rw [if_neg (by simp [List.isPrefixOf, hx]), ih, if_neg (by simp), List.length_cons]
    omega
theorem index_no1 (c : UInt8) : ∀ l : List UInt8, c ∉ l → Lib.index l [c] = -1
  | [], _ => rfl
  | x :: a, h => by
    have hx : ¬ c = x := fun e => h (by simp [e])
    have ih := index_no1 c a (fun e => h (by simp [e]))
    unfold Lib.index
    rw [if_neg (by simp [List.isPrefixOf, hx]), ih, if_pos (by decide)]
theorem splitB_sg (c : UInt8) : ∀ (n : Nat) (s : ByteArray), s.size ≤ n → Lib.splitB ⟨#[c]⟩ 0 (Lib.countB s ⟨#[c]⟩) s = (sg c [] (sl s)).map mkS := by
  intro n
  induction n with
  | zero =>
    intro s hs
    obtain rfl := empty_of_size s (by omega)
    rw [Lib.splitB_miss _ _ _ _ (by show Lib.index (sl ByteArray.empty) [c] = -1; rw [sl_empty]; rfl), sl_empty]; rfl
  | succ n ih =>
    intro s hs
    rcases cut_at c (sl s) with h | ⟨a, b, he, ha⟩
    · rw [Lib.splitB_miss _ _ _ _ (by show Lib.index (sl s) [c] = -1; exact index_no1 c _ h), sg_one h, List.map_cons, List.map_nil, mkS_sl]
    · have hi : Lib.indexB s ⟨#[c]⟩ = (a.length : Int) := by show Lib.index (sl s) [c] = _; rw [he]; exact index_hit1 c b a ha
      have hb : sl (s.extract (a.length + 1) s.size) = b := by
        rw [sl_extract_end, he, show a ++ c :: b = (a ++ [c]) ++ b by simp, List.drop_left' (by simp)]
      have ha' : s.extract 0 (a.length + 0) = mkS a := by
        apply sl_inj
        rw [sl_extract, sl_mkS, he]; simp
      rw [Lib.countB_hit s ⟨#[c]⟩ a.length (by show 1 ≤ 1; exact Nat.le_refl _) hi, Nat.add_comm 1, Lib.splitB_hit _ _ _ _ a.length hi, ha']
      rw [show (⟨#[c]⟩ : ByteArray).size = 1 from rfl]
      rw [ih _ (by
        have := congrArg List.length hb
        rw [sl_len] at this
        have h2 := congrArg List.length he
        rw [sl_len] at h2
        simp only [List.length_append, List.length_cons] at h2
        omega), hb, he, sg_hit a b ha]
      rfl
theorem split1_any (s : ByteArray) (c : UInt8) (w : World) (hs : s.size < 4294967281) (hm : ∃ m, w.cell? ⟨3, 0, none⟩ = some (.int .i64 m)) :
    Calls Tryz.prog 32 #[.string s, .string ⟨#[c]⟩] w fun e w' => (∃ v, e = .returned v ∧ SlR w' es v ((sg c [] (sl s)).map mkS)) ∧ Below w.heap.size w w' := by
  obtain ⟨m, hm⟩ := hm
  refine (Tryz.strings_Split s ⟨#[c]⟩ m w hs hm (by show 1 ≤ 1; exact Nat.le_refl _)).mono fun e w' ⟨he, hw⟩ => ⟨?_, hw ▸ (Below.refl _ _).alloc (Nat.le_refl _) _⟩
  have hl := Lib.splitB_all ⟨#[c]⟩ (by show 1 ≤ 1; exact Nat.le_refl _) 0 _ s rfl
  rw [splitB_sg c _ s (Nat.le_refl _)] at hw hl
  refine ⟨_, he, ?_⟩
  rw [hw, ← hl]
  have := SlR.lit (enc := es) w (((sg c [] (sl s)).map mkS).map Value.string) 9 ((sg c [] (sl s)).map mkS) (by rw [es_map])
  exact this
end Go.Proofs.YtoalfjkbgeiggaaGreatDoor
namespace Go.Proofs.YtoalfjkbgeiggaaGreatDoor
set_option maxRecDepth 20000
open Go.RowKit
namespace Ln
def verL : List UInt8 := [72, 84, 84, 80, 47, 49, 46, 49]
def verS : ByteArray := ⟨#[72, 84, 84, 80, 47, 49, 46, 49]⟩
def isM (s : ByteArray) : Bool := Tok.isTok s && decide (s.size ≤ 30)
def visB (c : UInt8) : Bool := 33 ≤ c && c ≤ 126
def isT (s : ByteArray) : Bool := decide (0 < s.size) && decide (s.size ≤ 200) && (sl s).all visB
/-- A request's first line. -/
def reqL (m t : List UInt8) : List UInt8 := m ++ 32 :: (t ++ 32 :: verL)
def firstF (l : List UInt8) : Except Int (List UInt8) :=
  match cutL2 l with
  | none => if 301 < l.length then .error 2 else .error 8
  | some (a, _) => if 300 < a.length then .error 2 else .ok a
/-- Method, target, how many bytes, code. -/
def parseR (l : List UInt8) : ByteArray × ByteArray × Int × Int :=
  match firstF l with
  | .error c => (ByteArray.empty, ByteArray.empty, 0, c)
  | .ok a => match sg 32 [] a with
    | [m, t, v] => if v = verL ∧ isM (mkS m) = true ∧ isT (mkS t) = true then (mkS m, mkS t, (a.length : Int) + 2, 0) else (ByteArray.empty, ByteArray.empty, 0, 3)
    | _ => (ByteArray.empty, ByteArray.empty, 0, 3)
theorem tok_vis {c : UInt8} (h : Tok.tokB c = true) : visB c = true := by
  have : ∀ n : Fin 256, (!Tok.tokB (UInt8.ofNat n.val) || visB (UInt8.ofNat n.val)) = true := by decide +kernel
  have h2 := this ⟨c.toNat, c.toNat_lt⟩
  rw [UInt8.ofNat_toNat, h] at h2
  simpa using h2
theorem vis_no {l : List UInt8} (h : l.all visB = true) : (13 : UInt8) ∉ l ∧ (32 : UInt8) ∉ l :=
  ⟨fun hm => absurd (List.all_eq_true.1 h 13 hm) (by decide), fun hm => absurd (List.all_eq_true.1 h 32 hm) (by decide)⟩
theorem isM_iff {s : ByteArray} (h : isM s = true) : (sl s).all visB = true ∧ (sl s).length ≤ 30 := by
  unfold isM at h
  rw [Bool.and_eq_true] at h
  refine ⟨?_, by rw [sl_len]; exact of_decide_eq_true h.2⟩
  have := h.1
  unfold Tok.isTok at this
  rw [Bool.and_eq_true] at this
  rw [List.all_eq_true]
  exact fun c hc => tok_vis (List.all_eq_true.1 this.1 c hc)
theorem isT_iff {s : ByteArray} (h : isT s = true) : (sl s).all visB = true ∧ (sl s).length ≤ 200 := by
  unfold isT at h
  rw [Bool.and_eq_true, Bool.and_eq_true] at h
  exact ⟨h.2, by rw [sl_len]; exact of_decide_eq_true h.1.2⟩
theorem req_no {m t : List UInt8} (hm : m.all visB = true) (ht : t.all visB = true) : (13 : UInt8) ∉ reqL m t := by
  unfold reqL
  intro h
  simp only [List.mem_append, List.mem_cons] at h
  rcases h with h | h | h | h | h
  · exact (vis_no hm).1 h
  · exact absurd h (by decide)
  · exact (vis_no ht).1 h
  · exact absurd h (by decide)
  · revert h; decide
theorem req_len (m t : List UInt8) : (reqL m t).length = m.length + t.length + 10 := by
  unfold reqL
  simp only [List.length_append, List.length_cons]
  have : verL.length = 8 := rfl
  omega
theorem req_words {m t : List UInt8} (hm : m.all visB = true) (ht : t.all visB = true) : sg 32 [] (reqL m t) = [m, t, verL] := by
  unfold reqL
  rw [sg_hit _ _ (vis_no hm).2, sg_hit _ _ (vis_no ht).2, sg_one (by decide)]
/-- What was printed is parsed. -/
theorem line_back {m t : ByteArray} (hm : isM m = true) (ht : isT t = true) (r : List UInt8) : parseR (reqL (sl m) (sl t) ++ 13 :: 10 :: r) = (m, t, (m.size : Int) + t.size + 12, 0) := by
  obtain ⟨hm1, hm2⟩ := isM_iff hm
  obtain ⟨ht1, ht2⟩ := isT_iff ht
  have hc := cutL2_some _ r (req_no hm1 ht1)
  have hl := req_len (sl m) (sl t)
  unfold parseR firstF
  rw [hc]
  dsimp only
  rw [if_neg (by omega)]
  dsimp only
  rw [req_words hm1 ht1]
  dsimp only
  rw [mkS_sl, mkS_sl, if_pos ⟨rfl, hm, ht⟩, hl, sl_len, sl_len]
  have : ((m.size + t.size + 10 : Nat) : Int) + 2 = (m.size : Int) + t.size + 12 := by omega
  rw [this]
theorem first_code {l : List UInt8} {c : Int} (h : firstF l = .error c) : c = 2 ∨ c = 8 := by
  unfold firstF at h
  split at h
  · split at h <;> injection h <;> omega
  · split at h
    · injection h; omega
    · cases h
/-- What is parsed. -/
theorem parse_cases (l : List UInt8) : (∃ c, c ≠ 0 ∧ parseR l = (ByteArray.empty, ByteArray.empty, 0, c)) ∨ ∃ m t r, isM m = true ∧ isT t = true ∧ l = reqL (sl m) (sl t) ++ 13 :: 10 :: r ∧ parseR l = (m, t, (m.size : Int) + t.size + 12, 0) := by
  cases hf : firstF l with
  | error c => exact .inl ⟨c, by have := first_code hf; omega, by unfold parseR; rw [hf]⟩
  | ok a =>
    have hcut : ∃ r, l = a ++ 13 :: 10 :: r := by
      unfold firstF at hf
      cases hc : cutL2 l with
      | none => rw [hc] at hf; dsimp only at hf; split at hf <;> cases hf
      | some p =>
        obtain ⟨a', r⟩ := p
        rw [hc] at hf
        dsimp only at hf
        split at hf
        · cases hf
        · injection hf with hf; subst hf; exact ⟨r, cutL2_text hc⟩
    obtain ⟨r, hr⟩ := hcut
    have hj := sg_join 32 a []
    have bad : parseR l = (ByteArray.empty, ByteArray.empty, 0, 3) → (∃ c, c ≠ 0 ∧ parseR l = (ByteArray.empty, ByteArray.empty, 0, c)) ∨ ∃ m t r, isM m = true ∧ isT t = true ∧ l = reqL (sl m) (sl t) ++ 13 :: 10 :: r ∧ parseR l = (m, t, (m.size : Int) + t.size + 12, 0) := fun h => .inl ⟨3, by decide, h⟩
    match hs : sg 32 [] a with
    | [m, t, v] =>
      by_cases hc : v = verL ∧ isM (mkS m) = true ∧ isT (mkS t) = true
      · refine .inr ⟨mkS m, mkS t, r, hc.2.1, hc.2.2, ?_, ?_⟩
        · rw [hs] at hj
          rw [Lib.join_cons, joinTail_c, joinTail_c, joinTail_n] at hj
          rw [sl_mkS, sl_mkS, hr]
          unfold reqL
          rw [hc.1] at hj
          simp only [List.nil_append, List.append_nil, List.append_assoc, List.cons_append] at hj ⊢
          rw [← hj]; simp
        · have hl : (a.length : Int) + 2 = ((mkS m).size : Int) + ((mkS t).size : Int) + 12 := by
            have := congrArg List.length hj
            rw [hs, Lib.join_cons, joinTail_c, joinTail_c, joinTail_n, hc.1] at this
            simp only [List.length_append, List.length_cons, List.length_nil, List.nil_append] at this
            have h8 : verL.length = 8 := rfl
            rw [mkS_size, mkS_size]
            omega
          unfold parseR
          rw [hf]
          dsimp only
          rw [hs]
          dsimp only
          rw [if_pos hc, hl]
      · refine bad ?_
        unfold parseR
        rw [hf]
        dsimp only
        rw [hs]
        dsimp only
        rw [if_neg hc]
    | [] => exact bad (by unfold parseR; rw [hf]; dsimp only; rw [hs])
    | [_] => exact bad (by unfold parseR; rw [hf]; dsimp only; rw [hs])
    | [_, _] => exact bad (by unfold parseR; rw [hf]; dsimp only; rw [hs])
    | _ :: _ :: _ :: _ :: _ => exact bad (by unfold parseR; rw [hf]; dsimp only; rw [hs])
/-- A part of a line has no end. -/
theorem take_none {a : List UInt8} (h : (13 : UInt8) ∉ a) {k : Nat} (hk : k < a.length + 2) : cutL2 ((a ++ [13, 10]).take k) = none := by
  by_cases h1 : k ≤ a.length
  · rw [List.take_append_of_le_length h1]
    exact (cutL2_none _ (fun e => h (List.mem_of_mem_take e))).1
  · obtain rfl : k = a.length + 1 := by omega
    rw [List.take_append, List.take_of_length_le (by omega), show a.length + 1 - a.length = 1 by omega]
    exact (cutL2_none a h).2
theorem line_short {m t : ByteArray} (hm : isM m = true) (ht : isT t = true) {k : Nat} (hk : k < m.size + t.size + 12) : parseR ((reqL (sl m) (sl t) ++ [13, 10]).take k) = (ByteArray.empty, ByteArray.empty, 0, 8) := by
  obtain ⟨hm1, hm2⟩ := isM_iff hm
  obtain ⟨ht1, ht2⟩ := isT_iff ht
  have hl := req_len (sl m) (sl t)
  have hc := take_none (req_no hm1 ht1) (k := k) (by rw [hl, sl_len, sl_len]; omega)
  unfold parseR firstF
  rw [hc]
  dsimp only
  rw [if_neg (by rw [List.length_take]; rw [sl_len, sl_len] at hl; rw [sl_len] at hm2 ht2; omega)]
theorem parse_empty : parseR [] = (ByteArray.empty, ByteArray.empty, 0, 8) := by unfold parseR firstF; rfl
end Ln
end Go.Proofs.YtoalfjkbgeiggaaGreatDoor
namespace Go.Proofs.YtoalfjkbgeiggaaGreatDoor.Cal

def leapB (y : Int) : Bool := y % 4 == 0 && (y % 100 != 0 || y % 400 == 0)
def mdays (y m : Int) : Int := if m = 4 ∨ m = 6 ∨ m = 9 ∨ m = 11 then 30 else if m = 2 then (if leapB y = true then 29 else 28) else 31
def vld (y m d : Int) : Bool := decide (1970 ≤ y ∧ y ≤ 9999 ∧ 1 ≤ m ∧ m ≤ 12 ∧ 1 ≤ d ∧ d ≤ mdays y m)
def yy (y m : Int) : Int := if m < 3 then y - 1 else y
def mm (m : Int) : Int := if m < 3 then m + 9 else m - 3
def num (y m d : Int) : Int := yy y m * 365 + yy y m / 4 - yy y m / 100 + yy y m / 400 + (153 * mm m + 2) / 5 + d - 1 - 719468

theorem leap_iff (y : Int) : leapB y = true ↔ (y % 4 = 0 ∧ (y % 100 ≠ 0 ∨ y % 400 = 0)) := by
  simp [leapB, bne_iff_ne]

/-- The first day of a year. -/
def ys (y : Int) : Int := (y - 1) * 365 + (y - 1) / 4 - (y - 1) / 100 + (y - 1) / 400 - 719162
/-- The days of a year ahead of a month. -/
def cum (y m : Int) : Int := (153 * (if m < 3 then m + 9 else m - 3) + 2) / 5 - 306 + (if m < 3 then 0 else if leapB y = true then 366 else 365)

theorem num_eq (y m d : Int) : num y m d = ys y + cum y m + d - 1 := by
  have hl := leap_iff y
  unfold num ys cum yy mm
  by_cases h : leapB y = true
  · have := hl.1 h
    by_cases hm : m < 3 <;> simp only [h, hm, if_true, if_false] <;> omega
  · have : ¬ (y % 4 = 0 ∧ (y % 100 ≠ 0 ∨ y % 400 = 0)) := fun x => h (hl.2 x)
    by_cases hm : m < 3 <;> simp only [h, hm, if_true, if_false, Bool.false_eq_true] <;> omega

theorem ys_succ (y : Int) : ys (y + 1) = ys y + (if leapB y = true then 366 else 365) := by
  have hl := leap_iff y
  unfold ys
  by_cases h : leapB y = true
  · have := hl.1 h
    simp only [h, if_true]; omega
  · have : ¬ (y % 4 = 0 ∧ (y % 100 ≠ 0 ∨ y % 400 = 0)) := fun x => h (hl.2 x)
    simp only [h, if_false, Bool.false_eq_true]; omega

theorem ys_mono (y z : Int) (h : y ≤ z) : ys y ≤ ys z := by unfold ys; omega

theorem m_cases {m : Int} (h1 : 1 ≤ m) (h2 : m ≤ 12) : m = 1 ∨ m = 2 ∨ m = 3 ∨ m = 4 ∨ m = 5 ∨ m = 6 ∨ m = 7 ∨ m = 8 ∨ m = 9 ∨ m = 10 ∨ m = 11 ∨ m = 12 := by omega

theorem cum_succ (y m : Int) (h1 : 1 ≤ m) (h2 : m ≤ 11) : cum y (m + 1) = cum y m + mdays y m := by
  unfold cum mdays
  rcases m_cases h1 (by omega) with rfl | rfl | rfl | rfl | rfl | rfl | rfl | rfl | rfl | rfl | rfl | rfl <;> by_cases h : leapB y = true <;> simp [h] at h2 ⊢

theorem cum_last (y : Int) : cum y 12 + mdays y 12 = (if leapB y = true then 366 else 365) := by
  unfold cum mdays
  by_cases h : leapB y = true <;> simp [h]

theorem cum_one (y : Int) : cum y 1 = 0 := by unfold cum; simp

theorem mdays_bd (y m : Int) : 28 ≤ mdays y m ∧ mdays y m ≤ 31 := by
  unfold mdays
  split
  · omega
  · split
    · split <;> omega
    · omega

theorem cum_mono (y m k : Int) (h1 : 1 ≤ m) (h : m < k) (h2 : k ≤ 12) : cum y m + mdays y m ≤ cum y k := by
  obtain ⟨n, hn⟩ : ∃ n : Nat, k = m + 1 + n := ⟨(k - m - 1).toNat, by omega⟩
  subst hn
  induction n with
  | zero => have := cum_succ y m h1 (by omega); simp; omega
  | succ n ih =>
    have i := ih (by omega) (by omega)
    have s := cum_succ y (m + 1 + n) (by omega) (by omega)
    have b := mdays_bd y (m + 1 + n)
    have e : m + 1 + ((n + 1 : Nat) : Int) = m + 1 + n + 1 := by omega
    rw [e, s]; omega

theorem vld_iff (y m d : Int) : vld y m d = true ↔ (1970 ≤ y ∧ y ≤ 9999 ∧ 1 ≤ m ∧ m ≤ 12 ∧ 1 ≤ d ∧ d ≤ mdays y m) := by simp [vld]

/-- A day lies within its month, and a month within its year. -/
theorem num_in (y m d : Int) (h : vld y m d = true) : ys y + cum y m ≤ num y m d ∧ num y m d < ys y + cum y m + mdays y m ∧ 0 ≤ cum y m ∧ ys y + cum y m + mdays y m ≤ ys (y + 1) := by
  obtain ⟨_, _, h1, h2, h3, h4⟩ := (vld_iff y m d).1 h
  have e := num_eq y m d
  have s := ys_succ y
  have l := cum_last y
  have o := cum_one y
  have b := mdays_bd y m
  have b1 := mdays_bd y 1
  have b12 := mdays_bd y 12
  have p : 0 ≤ cum y m := by
    by_cases hm : m = 1
    · subst hm; omega
    · have := cum_mono y 1 m (by omega) (by omega) h2; omega
  have q : cum y m + mdays y m ≤ cum y 12 + mdays y 12 := by
    by_cases hm : m = 12
    · subst hm; omega
    · have := cum_mono y m 12 h1 (by omega) (by omega); omega
  refine ⟨by omega, by omega, p, by omega⟩

theorem num_range (y m d : Int) (h : vld y m d = true) : 0 ≤ num y m d ∧ num y m d ≤ 2932896 := by
  have a := num_in y m d h
  obtain ⟨h1, h2, _⟩ := (vld_iff y m d).1 h
  have e1 := ys_mono 1970 y h1
  have e2 := ys_mono (y + 1) 10000 (by omega)
  have f1 : ys 1970 = 0 := by decide
  have f2 : ys 10000 = 2932897 := by decide
  omega

def ahead (y m d z k c : Int) : Prop := y < z ∨ (y = z ∧ (m < k ∨ (m = k ∧ d < c)))

theorem num_lt {y m d z k c : Int} (h : vld y m d = true) (g : vld z k c = true) (a : ahead y m d z k c) : num y m d < num z k c := by
  have p := num_in y m d h
  have q := num_in z k c g
  obtain ⟨_, _, h1, h2, _⟩ := (vld_iff y m d).1 h
  obtain ⟨_, _, g1, g2, _⟩ := (vld_iff z k c).1 g
  rcases a with a | ⟨rfl, a | ⟨rfl, a⟩⟩
  · have := ys_mono (y + 1) z (by omega); omega
  · have := cum_mono y m k h1 a g2; omega
  · have e1 := num_eq y m d; have e2 := num_eq y m c; omega

theorem num_lt_iff {y m d z k c : Int} (h : vld y m d = true) (g : vld z k c = true) : num y m d < num z k c ↔ ahead y m d z k c := by
  refine ⟨fun l => ?_, num_lt h g⟩
  by_cases a : ahead y m d z k c
  · exact a
  · by_cases b : ahead z k c y m d
    · have := num_lt g h b; omega
    · have : y = z ∧ m = k ∧ d = c := by unfold ahead at a b; omega
      obtain ⟨rfl, rfl, rfl⟩ := this
      omega

theorem num_inj {y m d z k c : Int} (h : vld y m d = true) (g : vld z k c = true) (e : num y m d = num z k c) : y = z ∧ m = k ∧ d = c := by
  have a : ¬ ahead y m d z k c := fun x => by have := num_lt h g x; omega
  have b : ¬ ahead z k c y m d := fun x => by have := num_lt g h x; omega
  unfold ahead at a b
  omega

/-! ### The day of a number -/
def cR (n : Int) : Int := (n + 719468) % 146097
def cEra (n : Int) : Int := (n + 719468) / 146097
def cY (n : Int) : Int := (cR n - cR n / 1460 + cR n / 36524 - cR n / 146096) / 365
def cN (n : Int) : Int := cR n - (cY n * 365 + cY n / 4 - cY n / 100)
def cM (n : Int) : Int := (5 * cN n + 2) / 153
def cd (n : Int) : Int := cN n - (153 * cM n + 2) / 5 + 1
def cm (n : Int) : Int := if 12 < cM n + 3 then cM n + 3 - 12 else cM n + 3
def cy (n : Int) : Int := if 12 < cM n + 3 then cEra n * 400 + cY n + 1 else cEra n * 400 + cY n

theorem year_of (r y : Int) (h0 : 0 ≤ r) (h1 : r < 146097) (hy : y = (r - r / 1460 + r / 36524 - r / 146096) / 365) :
    0 ≤ y ∧ y ≤ 399 ∧ y * 365 + y / 4 - y / 100 ≤ r ∧ r < (y + 1) * 365 + (y + 1) / 4 - (y + 1) / 100 + (y + 1) / 400 := by
  have hb : r / 36524 = 0 ∨ r / 36524 = 1 ∨ r / 36524 = 2 ∨ r / 36524 = 3 ∨ r = 146096 := by omega
  have hc : r = 146096 ∨ r / 146096 = 0 := by omega
  rcases hc with rfl | hc
  · have : y = 399 := by omega
    subst this; omega
  rw [hc] at hy
  have key : ∀ b : Int, 0 ≤ b → b ≤ 3 → r / 36524 = b → 0 ≤ y ∧ y ≤ 399 ∧ y * 365 + y / 4 - y / 100 ≤ r ∧ r < (y + 1) * 365 + (y + 1) / 4 - (y + 1) / 100 + (y + 1) / 400 := by
    intro b b0 b3 hb
    rw [hb] at hy
    obtain ⟨a, ha⟩ : ∃ a, a = r / 1460 := ⟨_, rfl⟩
    rw [← ha] at hy
    have i1 : 1460 * a ≤ r := by omega
    have i2 : r ≤ 1460 * a + 1459 := by omega
    have j1 : 365 * y ≤ r - a + b := by omega
    have j2 : r - a + b ≤ 365 * y + 364 := by omega
    have k1 : 36524 * b ≤ r := by omega
    have k2 : r ≤ 36524 * b + 36523 := by omega
    clear hb hy ha
    have hp : y / 100 = b := by
      have : 100 * b ≤ y ∧ y ≤ 100 * b + 99 := by
        have : b = 0 ∨ b = 1 ∨ b = 2 ∨ b = 3 := by omega
        rcases this with rfl | rfl | rfl | rfl <;> omega
      omega
    obtain ⟨q, s, hs, hq, s0, s3⟩ : ∃ q s, y = 4 * q + s ∧ y / 4 = q ∧ 0 ≤ s ∧ s ≤ 3 := ⟨y / 4, y % 4, by omega, rfl, by omega, by omega⟩
    rw [hp, hq]
    have e1 : q ≤ a := by omega
    have e2 : a ≤ q + 1 := by omega
    have hs' : s = 0 ∨ s = 1 ∨ s = 2 ∨ s = 3 := by omega
    subst hs
    have hp' : 100 * b ≤ 4 * q + s ∧ 4 * q + s ≤ 100 * b + 99 := by omega
    clear hp hq
    refine ⟨by omega, by omega, ?_, ?_⟩
    · rcases hs' with rfl | rfl | rfl | rfl <;> omega
    · have h4 : 0 ≤ (4 * q + s + 1) / 400 := by omega
      by_cases hl : 4 * q + s = 100 * b + 99
      · have g1 : (4 * q + s + 1) / 100 = b + 1 := by omega
        have g2 : (4 * q + s + 1) / 4 = 25 * (b + 1) := by omega
        rw [g1, g2]; omega
      · have g1 : (4 * q + s + 1) / 100 = b := by omega
        rw [g1]
        clear hl k1 k2
        rcases hs' with rfl | rfl | rfl | rfl
        · have g2 : (4 * q + 0 + 1) / 4 = q := by omega
          rw [g2]; omega
        · have g2 : (4 * q + 1 + 1) / 4 = q := by omega
          rw [g2]; omega
        · have g2 : (4 * q + 2 + 1) / 4 = q := by omega
          rw [g2]; omega
        · have g2 : (4 * q + 3 + 1) / 4 = q + 1 := by omega
          rw [g2]; omega
  rcases hb with hb | hb | hb | hb | hb
  · exact key 0 (by omega) (by omega) hb
  · exact key 1 (by omega) (by omega) hb
  · exact key 2 (by omega) (by omega) hb
  · exact key 3 (by omega) (by omega) hb
  · omega

theorem num_in' (y m d : Int) (h1 : 1 ≤ m) (h2 : m ≤ 12) (h3 : 1 ≤ d) (h4 : d ≤ mdays y m) : ys y + cum y m ≤ num y m d ∧ num y m d < ys y + cum y m + mdays y m ∧ 0 ≤ cum y m ∧ ys y + cum y m + mdays y m ≤ ys (y + 1) := by
  have e := num_eq y m d
  have s := ys_succ y
  have l := cum_last y
  have o := cum_one y
  have b := mdays_bd y m
  have b1 := mdays_bd y 1
  have b12 := mdays_bd y 12
  have p : 0 ≤ cum y m := by
    by_cases hm : m = 1
    · subst hm; omega
    · have := cum_mono y 1 m (by omega) (by omega) h2; omega
  have q : cum y m + mdays y m ≤ cum y 12 + mdays y 12 := by
    by_cases hm : m = 12
    · subst hm; omega
    · have := cum_mono y m 12 h1 (by omega) (by omega); omega
  refine ⟨by omega, by omega, p, by omega⟩

theorem civ_core (n era r y rem M : Int) (he : n + 719468 = 146097 * era + r) (y0 : 0 ≤ y) (y1 : y ≤ 399)
    (hrem : rem = r - (y * 365 + y / 4 - y / 100)) (r0 : 0 ≤ rem) (r1 : r < (y + 1) * 365 + (y + 1) / 4 - (y + 1) / 100 + (y + 1) / 400) (hM : M = (5 * rem + 2) / 153) (Y m : Int)
    (hY : Y = if 12 < M + 3 then era * 400 + y + 1 else era * 400 + y) (hm : m = if 12 < M + 3 then M + 3 - 12 else M + 3) :
    0 ≤ M ∧ M ≤ 11 ∧ 1 ≤ m ∧ m ≤ 12 ∧ 1 ≤ rem - (153 * M + 2) / 5 + 1 ∧ rem - (153 * M + 2) / 5 + 1 ≤ mdays Y m ∧ num Y m (rem - (153 * M + 2) / 5 + 1) = n := by
  have M0 : 0 ≤ M := by omega
  have M1 : M ≤ 11 := by omega
  refine ⟨M0, M1, ?_⟩
  have hc : M = 0 ∨ M = 1 ∨ M = 2 ∨ M = 3 ∨ M = 4 ∨ M = 5 ∨ M = 6 ∨ M = 7 ∨ M = 8 ∨ M = 9 ∨ M = 10 ∨ M = 11 := by omega
  have hl := leap_iff Y
  have i1 : (era * 400 + y) / 4 = era * 100 + y / 4 := by omega
  have i2 : (era * 400 + y) / 100 = era * 4 + y / 100 := by omega
  have i3 : (era * 400 + y) / 400 = era := by omega
  have fin : num Y m (rem - (153 * M + 2) / 5 + 1) = n := by
    have e1 : yy Y m = era * 400 + y := by
      unfold yy; subst hY hm
      by_cases h : 12 < M + 3 <;> simp only [h, if_true, if_false] <;> split <;> omega
    have e2 : mm m = M := by
      unfold mm; subst hm
      by_cases h : 12 < M + 3 <;> simp only [h, if_true, if_false] <;> split <;> omega
    unfold num
    rw [e1, e2, i1, i2, i3]
    omega
  refine ⟨?_, ?_, ?_, ?_, fin⟩
  · subst hm; split <;> omega
  · subst hm; split <;> omega
  · omega
  · unfold mdays
    by_cases h11 : M = 11
    · subst h11
      rw [if_pos (by omega)] at hY hm
      subst hm
      rw [if_neg (by omega), if_pos (by omega)]
      by_cases h : leapB Y = true
      · rw [if_pos h]
        have hd : (y + 1) / 4 ≤ y / 4 + 1 ∧ y / 100 ≤ (y + 1) / 100 := by omega
        have h4 : (y + 1) / 400 = 0 ∨ ((y + 1) / 400 = 1 ∧ (y + 1) / 100 = y / 100 + 1) := by omega
        omega
      · rw [if_neg h]
        have hn : ¬ (Y % 4 = 0 ∧ (Y % 100 ≠ 0 ∨ Y % 400 = 0)) := fun x => h (hl.2 x)
        have hd : (y + 1) / 4 - (y + 1) / 100 + (y + 1) / 400 = y / 4 - y / 100 := by subst hY; omega
        omega
    · rcases hc with rfl | rfl | rfl | rfl | rfl | rfl | rfl | rfl | rfl | rfl | rfl | rfl <;> simp at hm <;> subst hm <;> simp <;> first | omega | exact absurd rfl h11

theorem civ_ok (n : Int) (h0 : 0 ≤ n) (h1 : n ≤ 2932896) : vld (cy n) (cm n) (cd n) = true ∧ num (cy n) (cm n) (cd n) = n := by
  have hr : 0 ≤ cR n ∧ cR n < 146097 := by unfold cR; omega
  have hy := year_of (cR n) (cY n) hr.1 hr.2 rfl
  have k := civ_core n (cEra n) (cR n) (cY n) (cN n) (cM n) (by unfold cEra cR; omega) hy.1 hy.2.1 rfl (by unfold cN; omega) hy.2.2.2 rfl (cy n) (cm n) rfl rfl
  obtain ⟨_, _, a, b, c, d, e⟩ := k
  have e' : num (cy n) (cm n) (cd n) = n := e
  have hi := num_in' (cy n) (cm n) (cd n) a b c d
  refine ⟨(vld_iff _ _ _).2 ⟨?_, ?_, a, b, c, d⟩, e'⟩
  · by_cases h : 1970 ≤ cy n
    · exact h
    · have := ys_mono (cy n + 1) 1970 (by omega)
      have f1 : ys 1970 = 0 := by decide
      omega
  · by_cases h : cy n ≤ 9999
    · exact h
    · have := ys_mono 10000 (cy n) (by omega)
      have f2 : ys 10000 = 2932897 := by decide
      omega

theorem civ_num {y m d : Int} (h : vld y m d = true) : cy (num y m d) = y ∧ cm (num y m d) = m ∧ cd (num y m d) = d := by
  have r := num_range y m d h
  have c := civ_ok (num y m d) r.1 r.2
  exact num_inj c.1 h c.2

/-- The next day: of the same month, or the first of the next month, or of the next year. -/
theorem civ_next (n : Int) (h0 : 0 ≤ n) (h1 : n < 2932896) :
    (cy (n + 1) = cy n ∧ cm (n + 1) = cm n ∧ cd (n + 1) = cd n + 1 ∧ cd n + 1 ≤ 31) ∨
    (cy (n + 1) = cy n ∧ cm (n + 1) = cm n + 1 ∧ cd (n + 1) = 1 ∧ 28 ≤ cd n ∧ cd n ≤ 31) ∨
    (cy (n + 1) = cy n + 1 ∧ cm n = 12 ∧ cm (n + 1) = 1 ∧ cd (n + 1) = 1 ∧ 28 ≤ cd n ∧ cd n ≤ 31) := by
  obtain ⟨v, e⟩ := civ_ok n h0 (by omega)
  obtain ⟨v', e'⟩ := civ_ok (n + 1) (by omega) (by omega)
  obtain ⟨a1, a2, a3, a4, a5, a6⟩ := (vld_iff _ _ _).1 v
  have b := mdays_bd (cy n) (cm n)
  have q1 := num_eq (cy n) (cm n) (cd n)
  by_cases c1 : cd n < mdays (cy n) (cm n)
  · left
    have w : vld (cy n) (cm n) (cd n + 1) = true := (vld_iff _ _ _).2 ⟨a1, a2, a3, a4, by omega, by omega⟩
    have q2 := num_eq (cy n) (cm n) (cd n + 1)
    obtain ⟨x1, x2, x3⟩ := num_inj v' w (by omega)
    exact ⟨x1, x2, x3, by omega⟩
  · right
    by_cases c2 : cm n < 12
    · left
      have b' := mdays_bd (cy n) (cm n + 1)
      have w : vld (cy n) (cm n + 1) 1 = true := (vld_iff _ _ _).2 ⟨a1, a2, by omega, by omega, by omega, by omega⟩
      have q2 := num_eq (cy n) (cm n + 1) 1
      have q3 := cum_succ (cy n) (cm n) a3 (by omega)
      obtain ⟨x1, x2, x3⟩ := num_inj v' w (by omega)
      exact ⟨x1, x2, x3, by omega, by omega⟩
    · right
      have hm : cm n = 12 := by omega
      have b' := mdays_bd (cy n + 1) 1
      have s := ys_succ (cy n)
      have l := cum_last (cy n)
      have o := cum_one (cy n + 1)
      have q2 := num_eq (cy n + 1) 1 1
      rw [hm] at q1 c1 b
      have hy : cy n + 1 ≤ 9999 := by
        by_cases h : cy n + 1 ≤ 9999
        · exact h
        · have h9 : cy n = 9999 := by omega
          have f2 : ys 10000 = 2932897 := by decide
          rw [h9] at s l q1 c1
          rw [hm, h9] at e
          simp only [show (9999 : Int) + 1 = 10000 from rfl] at s
          omega
      have w : vld (cy n + 1) 1 1 = true := (vld_iff _ _ _).2 ⟨by omega, by omega, by omega, by omega, by omega, by omega⟩
      rw [hm] at e a6
      obtain ⟨x1, x2, x3⟩ := num_inj v' w (by omega)
      exact ⟨x1, hm, x2, x3, by omega, by omega⟩

/-- 400 years on: 146097 days. -/
theorem num_cycle (y m d : Int) : num (y + 400) m d = num y m d + 146097 := by
  unfold num yy
  split <;> omega
theorem vld_cycle (y m : Int) : mdays (y + 400) m = mdays y m := by
  have a := leap_iff y
  have b := leap_iff (y + 400)
  have e : leapB (y + 400) = leapB y := by
    rw [Bool.eq_iff_iff, a, b]; omega
  unfold mdays; rw [e]
end Go.Proofs.YtoalfjkbgeiggaaGreatDoor.Cal
namespace Go.Proofs.YtoalfjkbgeiggaaGreatDoor
open Go.RowKit

theorem ret_iiii {k : IntKind} {a b c d a' b' c' d' : Int} (h : a = a') (g : b = b') (i : c = c') (j : d = d') : Ending.returned (.tuple #[.int k a, .int k b, .int k c, .int k d]) = .returned (.tuple #[.int k a', .int k b', .int k c', .int k d']) := by rw [h, g, i, j]
theorem tmod_neg (n m : Int) (h : 0 < m) (h1 : n.tmod m < 0) : n.tmod m + m = n % m := by
  have a := Int.lt_tmod_of_pos n h
  have e := Int.emod_eq_tmod (a := n) (b := m)
  have p := Int.emod_nonneg n (show m ≠ 0 by omega)
  split at e <;> omega
theorem tmod_nonneg (n m : Int) (h : 0 < m) (h1 : 0 ≤ n.tmod m) : n.tmod m = n % m := by
  have e := Int.emod_eq_tmod (a := n) (b := m)
  have p := Int.emod_lt_of_pos n h
  split at e <;> omega

end Go.Proofs.YtoalfjkbgeiggaaGreatDoor
namespace Go.Proofs.YtoalfjkbgeiggaaGreatDoor
open Go.RowKit
namespace Dt
def dg (n : Nat) : UInt8 := UInt8.ofNat (48 + n)
def d2 (n : Nat) : List UInt8 := [dg (n / 10), dg (n % 10)]
def d4 (n : Nat) : List UInt8 := [dg (n / 1000), dg (n / 100 % 10), dg (n / 10 % 10), dg (n % 10)]
def days7 : List UInt8 := [84, 104, 117, 70, 114, 105, 83, 97, 116, 83, 117, 110, 77, 111, 110, 84, 117, 101, 87, 101, 100]
def months12 : List UInt8 := [74, 97, 110, 70, 101, 98, 77, 97, 114, 65, 112, 114, 77, 97, 121, 74, 117, 110, 74, 117, 108, 65, 117, 103, 83, 101, 112, 79, 99, 116, 78, 111, 118, 68, 101, 99]
def wd (k : Nat) : List UInt8 := (days7.drop (k * 3)).take 3
def mo (m : Nat) : List UInt8 := (months12.drop (3 * m - 3)).take 3
/-- The text of a day and a time of that day. -/
def textD (k d m y s : Nat) : List UInt8 :=
  wd k ++ ([44, 32] ++ (d2 d ++ ([32] ++ (mo m ++ ([32] ++ (d4 y ++ ([32] ++ (d2 (s / 3600) ++ ([58] ++ (d2 (s / 60 % 60) ++ ([58] ++ (d2 (s % 60) ++ [32, 71, 77, 84]))))))))))))
def printD (n : Nat) : List UInt8 := textD (n / 86400 % 7) (Cal.cd ((n / 86400 : Nat) : Int)).toNat (Cal.cm ((n / 86400 : Nat) : Int)).toNat (Cal.cy ((n / 86400 : Nat) : Int)).toNat (n % 86400)
theorem dec2 (n : Nat) (h : n < 100) : (if n < 10 then 48 :: Lib.decDigits n else Lib.decDigits n) = d2 n := by
  unfold d2 dg
  by_cases h1 : n < 10
  · rw [if_pos h1, Lib.decDigits, dif_pos h1, show n / 10 = 0 from by omega, show n % 10 = n from by omega]; rfl
  · rw [if_neg h1, Lib.decDigits, dif_neg h1, Lib.decDigits, dif_pos (by omega)]; rfl
theorem dec4 (n : Nat) (h0 : 1000 ≤ n) (h : n < 10000) : Lib.decDigits n = d4 n := by
  unfold d4 dg
  rw [Lib.decDigits, dif_neg (by omega), Lib.decDigits, dif_neg (by omega), Lib.decDigits, dif_neg (by omega), Lib.decDigits, dif_pos (by omega)]
  rw [show n / 10 / 10 = n / 100 from by omega, show n / 100 / 10 = n / 1000 from by omega]
  rfl
theorem d2_len (n : Nat) : (d2 n).length = 2 := rfl
theorem d4_len (n : Nat) : (d4 n).length = 4 := rfl
theorem wd_len (k : Nat) (h : k < 7) : (wd k).length = 3 := by
  have : ∀ k : Fin 7, (wd k.val).length = 3 := by decide
  exact this ⟨k, h⟩
theorem mo_len (m : Nat) (h : 1 ≤ m ∧ m ≤ 12) : (mo m).length = 3 := by
  have : ∀ m : Fin 13, 1 ≤ m.val → (mo m.val).length = 3 := by decide
  exact this ⟨m, by omega⟩ h.1
theorem textD_len (k d m y s : Nat) (hk : k < 7) (hm : 1 ≤ m ∧ m ≤ 12) : (textD k d m y s).length = 29 := by
  unfold textD
  simp only [List.length_append, wd_len k hk, mo_len m hm, d2_len, d4_len, List.length_cons, List.length_nil]
/-- Number of digits, or none. -/
def num : List UInt8 → Nat → Option Nat
  | [], n => some n
  | c :: l, n => if 48 ≤ c ∧ c ≤ 57 then num l (10 * n + (c.toNat - 48)) else none
end Dt
end Go.Proofs.YtoalfjkbgeiggaaGreatDoor
namespace Go.Proofs.YtoalfjkbgeiggaaGreatDoor
open Go.RowKit

section
variable {P : Program} {ops : Array Oper} {Q : Exit → Act → World → Prop} {S : World → Prop}

/-- The walk in a given order. -/
def seqH (P : Program) (ops : Array Oper) (Q : Exit → Act → World → Prop) (S : World → Prop) : List (Bool × Nat) → Act → World → Prop
  | [], a, w => Q .normal a w
  | (true, i) :: l, a, w => ∃ o v, ops[i]? = some o ∧ YieldsIf P ops S o v a ∧ seqH P ops Q S l (a.put o.dst v) w
  | (false, i) :: l, a, w => wpOp P ops Q i (fun a' w' => S w' ∧ seqH P ops Q S l a' w') a w

/-- The order is one in which everything may come up where it stands, and what does more than read stands alone. -/
def okSeq (ops : Array Oper) : List (Bool × Nat) → Array Bool → Bool
  | [], listed => (Region.ready .any ops listed).isEmpty
  | (true, i) :: l, listed => (Region.ready .any ops listed).contains i && Region.free .any ops listed i && okSeq ops l (listed.setIfInBounds i true)
  | (false, i) :: l, listed => (Region.ready .any ops listed == [i]) && okSeq ops l (listed.setIfInBounds i true)

theorem seqH_sound (hs : Region.noSelect ops = true) (hQ : ∀ (d : Option Tmp) (v : Value) c a w, Q (.panic c) (a.put d v) w → Q (.panic c) a w) :
    ∀ (l : List (Bool × Nat)) (fuel : Nat) (listed : Array Bool) (a : Act) (w : World), l.length ≤ fuel → okSeq ops l listed = true → S w → seqH P ops Q S l a w → wpAnyH P .any ops Q S fuel listed a w
  | [], fuel, listed, a, w, _, hok, _, h => by
    refine wpAnyH_done ?_ h fuel
    simpa [okSeq] using hok
  | (true, i) :: l, 0, listed, a, w, hl, _, _, _ => by simp at hl
  | (true, i) :: l, fuel + 1, listed, a, w, hl, hok, hS, h => by
    simp only [okSeq, Bool.and_eq_true] at hok
    obtain ⟨o, v, ho, hy, hr⟩ := h
    exact wpAnyH_take ho hs hok.1.2 hok.1.1 (hQ _ _) hy hS (seqH_sound hs hQ l fuel _ _ w (by simp at hl; omega) hok.2 hS hr)
  | (false, i) :: l, 0, listed, a, w, hl, _, _, _ => by simp at hl
  | (false, i) :: l, fuel + 1, listed, a, w, hl, hok, hS, h => by
    simp only [okSeq, Bool.and_eq_true, beq_iff_eq] at hok
    refine wpAnyH_all hok.1 (by simp) fun j hj => ?_
    obtain rfl : j = i := by simpa using hj
    exact wpOp_mono (fun a' w' ⟨h1, h2⟩ => ⟨h1, seqH_sound hs hQ l fuel _ a' w' (by simp at hl; omega) hok.2 h1 h2⟩) h

theorem wp_region_seq {id : Nat} {a : Act} {w : World} (l : List (Bool × Nat)) (S : World → Prop) (hm : P.follows .mixedOrders = true) (hs : Region.noSelect ops = true)
    (hQ : ∀ (d : Tmp) (v : Value) c (a : Act) w, Q (.panic c) { a with tmps := a.tmps.setIfInBounds d v } w → Q (.panic c) a w) (hlen : decide (l.length ≤ ops.size) = true)
    (hok : okSeq ops l (Array.replicate ops.size false) = true) (hS : S w.drew) (h : seqH P ops Q S l a w.drew) : (Code.region id ops true).wp P Q a w :=
  wp_region_held hm (seqH_sound hs (fun d v c a w h => by cases d with | none => exact h | some d => exact hQ d v c a w h) l ops.size _ a w.drew (of_decide_eq_true hlen) hok hS h)

theorem seqH_nil {a : Act} {w : World} (h : Q .normal a w) : seqH P ops Q S [] a w := h
/-- What reads, and is wanted. -/
theorem seqH_take {i : Nat} {o : Oper} {v : Value} {l : List (Bool × Nat)} {a : Act} {w : World} (ho : ops[i]? = some o) (hw : Region.wanted o (yielded ops a.tmps) = true)
    (hy : ∀ w', S w' → (execOp a.eval o).run P w' = .ok (.value v) w') (h : seqH P ops Q S l (a.put o.dst v) w) : seqH P ops Q S ((true, i) :: l) a w := ⟨o, v, ho, .inl ⟨hw, hy⟩, h⟩
/-- What is not wanted. -/
theorem seqH_skip {i : Nat} {o : Oper} {l : List (Bool × Nat)} {a : Act} {w : World} (ho : ops[i]? = some o) (hw : Region.wanted o (yielded ops a.tmps) = false)
    (h : seqH P ops Q S l (a.put o.dst undef) w) : seqH P ops Q S ((true, i) :: l) a w := ⟨o, undef, ho, .inr ⟨hw, rfl⟩, h⟩
/-- What does more, and is wanted. -/
theorem seqH_eff {i : Nat} {o : Oper} {l : List (Bool × Nat)} {a : Act} {w : World} (ho : ops[i]? = some o) (hw : Region.wanted o (yielded ops a.tmps) = true)
    (h : ∀ K : Act → World → Prop, (∀ a' w', S w' ∧ seqH P ops Q S l a' w' → K a' w') → o.wp P a w K Q) : seqH P ops Q S ((false, i) :: l) a w := by
  show wpOp P ops Q i _ a w
  unfold wpOp
  simp only [ho, hw, if_true]
  exact .inl (h _ fun _ _ h => h)
/-- What does more, and is not wanted. -/
theorem seqH_pass {i : Nat} {o : Oper} {l : List (Bool × Nat)} {a : Act} {w : World} (ho : ops[i]? = some o) (hw : Region.wanted o (yielded ops a.tmps) = false)
    (hS : S w) (h : seqH P ops Q S l (a.put o.dst undef) w) : seqH P ops Q S ((false, i) :: l) a w := by
  show wpOp P ops Q i _ a w
  unfold wpOp
  simp only [ho, hw, Bool.false_eq_true, if_false]
  exact ⟨hS, h⟩
/-- Behind a call that turned nothing that was there. -/
theorem seq_next {w0 wc wn : World} {X : Prop} (hc : Below w0.heap.size w0 wc) (hn : Below wc.heap.size wc wn) (h : Below w0.heap.size w0 wn → X) : Below w0.heap.size w0 wn ∧ X :=
  ⟨hc.trans (hn.mono hc.size), h (hc.trans (hn.mono hc.size))⟩
end
attribute [irreducible] seqH
end Go.Proofs.YtoalfjkbgeiggaaGreatDoor
namespace Go.Proofs.YtoalfjkbgeiggaaGreatDoor
set_option maxRecDepth 20000
open Go.RowKit
/-- The library's table of powers of ten lies where its row says. -/
def HasP10 (w : World) : Prop := Lib.TabIs Tryz.prog w "internal/strconv.uint64pow10" .u64 Lib.pow10Tab ∧ 2 < w.heap.size
theorem HasP10.below {B : Nat} {w w' : World} (h : HasP10 w) (hB : B = w.heap.size) (hb : Below B w w') : HasP10 w' := by
  subst hB
  exact ⟨var?_below hb (g := 2) (by kernel_rfl) h.2 h.1, Nat.lt_of_lt_of_le h.2 hb.size⟩
theorem HasP10.drew {w : World} (h : HasP10 w) : HasP10 w.drew := ⟨h.1, h.2⟩
theorem below_grow_ (B : Nat) (w : World) (hB : B ≤ w.heap.size) (k : Nat) (os : Array Obj) : Below B w (Sort.grow (w.drewN k) os) :=
  ⟨rfl, rfl, rfl, by show _ ≤ ((w.drewN k).heap ++ os).size; rw [Array.size_append]; exact Nat.le_add_right _ _, fun i hi => by
    show (w.heap ++ os)[i]? = w.heap[i]?
    rw [Array.getElem?_append_left (Nat.lt_of_lt_of_le hi hB)]⟩
theorem itoa_year (y : Nat) (w : World) (h0 : 1000 ≤ y) (h1 : y < 10000) (hp : HasP10 w) :
    Calls Tryz.prog 36 #[.int .i64 y] w fun e w' => e = .returned (.string (mkS (Dt.d4 y))) ∧ Below w.heap.size w w' := by
  refine (Tryz.strconv_Itoa (y : Int) (by omega) (by omega) w hp.1).mono fun e w' ⟨he, k, os, hw⟩ => ⟨?_, ?_⟩
  · rw [he]
    unfold Lib.itoa
    rw [if_neg (by omega), Int.toNat_natCast, Dt.dec4 y h0 h1]; rfl
  · rw [hw]; exact below_grow_ _ w (Nat.le_refl _) k os
end Go.Proofs.YtoalfjkbgeiggaaGreatDoor
