/- BodyEnds: the law's walk. -/
import Derived.Test.YthocoplaehbncaaDoorBodyP
import Derived.Test.YthocoplaehbncaaDoorRest
namespace Go.Proofs.YthocoplaehbncaaDoor
set_option maxRecDepth 20000
open Go.RowKit
open Bd
set_option maxHeartbeats 3200000 in
theorem bodyEnds_walk (req : Bool) (m : ByteArray) (code : Int) (v : Value) (l : List Fld) (w : World) (hm : m.size ≤ 1048576) (_ : (Lit.int .i64 code).wf = true) (h : SlR w e_ss v l) (hs : (l.map (fun d => d.1.size + d.2.size + 2)).sum ≤ 1048576) (he : HasErr w) :
    Calls Tryd.prog 8 #[.bool req, .string m, .int .i64 code, v] w fun e w' => e = .returned (.bool true) ∧ Below w.heap.size w w' := by
  have HK := Lib.hid (kind_any req m code v l w ⟨h, Nat.le_trans hs (by decide)⟩ he)
  have HN := Lib.hid (fun w' (hb : Below w.heap.size w w') => kind_any false ⟨#[71, 69, 84]⟩ 200 (.slice none 0 0) [] w' ⟨SlR.nil w' e_ss, by decide⟩ (he.below hb))
  rw [kind_nil] at HN
  obtain ⟨k, n, c, hk, hc⟩ := kindF_in req m code l
  rw [hk] at HK
  dsimp only at HK HN
  clear h hs he hk hm
  rcases hc with ⟨h1, rfl, rfl⟩ | ⟨rfl, rfl, h3⟩ | ⟨rfl, rfl, h3, h4⟩
  · have hne : (c != 0) = true := by simpa using h1
    go_enter Tryd.func8, Tryd.ntmps8
    go_wp2_with fail
    refine HK.out.mono ?_
    rintro e w1 ⟨rfl, b1⟩
    go_wp2_with fail
    refine (HN.out _ b1).mono ?_
    rintro e w2 ⟨rfl, b2⟩
    go_wp2_with fail
    go_ret
    exact ⟨rfl, belT b1 b2⟩
  · rcases h3 with rfl | rfl | ⟨rfl, rfl⟩
    iterate 2
      focus
        go_enter Tryd.func8, Tryd.ntmps8
        go_wp2_with fail
        refine HK.out.mono ?_
        rintro e w1 ⟨rfl, b1⟩
        go_wp2_with fail
        refine (HN.out _ b1).mono ?_
        rintro e w2 ⟨rfl, b2⟩
        cases req
        all_goals
          go_wp2_with fail
          go_ret
          exact ⟨rfl, belT b1 b2⟩
    go_enter Tryd.func8, Tryd.ntmps8
    go_wp2_with fail
    refine HK.out.mono ?_
    rintro e w1 ⟨rfl, b1⟩
    go_wp2_with fail
    refine (HN.out _ b1).mono ?_
    rintro e w2 ⟨rfl, b2⟩
    go_wp2_with fail
    go_ret
    exact ⟨rfl, belT b1 b2⟩
  · have d1 : decide (0 ≤ n) = true := decide_eq_true h3
    have d2 : decide (n ≤ 5000) = true := decide_eq_true h4
    cases d0 : (n == 0)
    all_goals
      go_enter Tryd.func8, Tryd.ntmps8
      go_wp2_with fail
      refine HK.out.mono ?_
      rintro e w1 ⟨rfl, b1⟩
      go_wp2_with fail
      refine (HN.out _ b1).mono ?_
      rintro e w2 ⟨rfl, b2⟩
      cases req
      all_goals
        go_wp2_with fail
        go_ret
        exact ⟨rfl, belT b1 b2⟩
end Go.Proofs.YthocoplaehbncaaDoor
