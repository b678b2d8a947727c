/- A listed variable that reads as an interface's value: its cell. -/
import Derived.Test.YthhhlaoiampinaaDoorDoor
import Derived.LaidLaws
namespace Go.Proofs.YthhhlaoiampinaaDoor
open Go.RowKit
theorem iface_mem {P : Program} {W : World} {name nm : String} {d : DataW Unit} {laid : List (String × DataW Unit)} {g : Nat} {t : TypeId} {ms : Array (String × TypeId)}
    (hg : P.globalNamed name = some g) (hty : (P.globals[g]?).map (·.type) = some t) (ht : P.underlying t = some (.interface ms))
    (h : laidMet P laid W) (hm : (name, .iface nm d) ∈ laid) : ∃ u v, W.cell? ⟨g, 0, none⟩ = some (.iface u v) := by
  obtain ⟨g', t', cs, fuel, p, hg', ht', hvar, hd⟩ := Lib.laidMet.reads h hm
  obtain rfl := Option.some.inj (hg.symm.trans hg')
  obtain rfl := Option.some.inj (hty.symm.trans ht')
  obtain ⟨f', u, v, hcs, -, -⟩ := iface_of_trod ht hd
  have hc := World.var?_cell hg hvar 0
  refine ⟨u, v, ?_⟩
  rw [hc, ← Array.getElem?_toList, hcs]; rfl
end Go.Proofs.YthhhlaoiampinaaDoor
