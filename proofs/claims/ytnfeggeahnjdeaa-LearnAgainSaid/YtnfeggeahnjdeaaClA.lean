/- Values of literals, states of clauses. -/
import Derived.Test.YtnfeggeahnjdeaaProg
import Derived.Test.YtnfeggeahnjdeaaBase
import Derived.Test.YtnfeggeahnjdeaaBits
import Derived.Deep.LoopGhost
namespace Go.Proofs.Ytnfeggeahnjdeaa
open Go.RowKit

/-- A slice whose elements are the numbers zs, as they lie in memory. -/
structure Row (k : IntKind) (w : World) (A : Option Addr) (zs : List Int) : Prop where
  len : zs.length ≤ 1000000
  at_ : zs.length = 0 ∨ ∃ b off, A = some ⟨b, off, none⟩ ∧ b < w.heap.size ∧ ∀ i (h : i < zs.length), w.cell? ⟨b, off + i, none⟩ = some (.int k zs[i])
theorem Row.below {k : IntKind} {w w' : World} {A : Option Addr} {zs : List Int} (h : Row k w A zs) (hb : Below w.heap.size w w') : Row k w' A zs := by
  refine ⟨h.len, h.at_.imp id fun ⟨b, off, h1, h2, h3⟩ => ⟨b, off, h1, Nat.lt_of_lt_of_le h2 hb.size, fun i hi => ?_⟩⟩
  rw [hb.cell (p := ⟨b, off + i, none⟩) h2]
  exact h3 i hi
end Go.Proofs.Ytnfeggeahnjdeaa
