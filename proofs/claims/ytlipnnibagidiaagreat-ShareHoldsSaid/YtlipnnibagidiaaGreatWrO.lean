/- shape.writer.write writes the node's clauses. -/
import Derived.Test.YtlipnnibagidiaaGreatRdC
import Derived.Test.YtlipnnibagidiaaGreatWaA
import Derived.Deep.RegionHeld3
import Derived.BigQuiet
import Derived.Laws.EntriesVeiled
namespace Go.Proofs.YtlipnnibagidiaaGreat
open Go.RowKit Go.Lib
theorem Tab.wf {W : World} {A : Option Addr} {T : List Nd} (h : Tab W A T) {n : Nd} (hn : n ∈ T) : NdWf n := by
  obtain ⟨i, hi, rfl⟩ := List.getElem_of_mem hn
  obtain ⟨b, off, _, _, hc⟩ := h.at_.resolve_left (by omega)
  exact (hc i hi).wf
end Go.Proofs.YtlipnnibagidiaaGreat
