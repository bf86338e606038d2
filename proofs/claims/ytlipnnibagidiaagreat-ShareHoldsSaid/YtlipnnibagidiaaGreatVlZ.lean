/- gantryref14.Holds. -/
import Derived.Test.YtlipnnibagidiaaGreatVlX
namespace Go.Proofs.YtlipnnibagidiaaGreat
open Go.RowKit Go.Lib
def toldF (T : List Nd) (val : Int → Int) (i : Nat) : Int := if (ndAt T i).sort = 0 then 2 - val i else 0
theorem Row8.below {w w' : World} {A : Option Addr} {zs : List Int} (h : Row8 w A zs) (hb : Below w.heap.size w w') : Row8 w' A zs := by
  refine ⟨h.len, h.at_.imp id fun ⟨b, off, h1, h2, h3⟩ => ⟨b, off, h1, Nat.lt_of_lt_of_le h2 hb.size, fun i hi => ?_⟩⟩
  rw [hb.cell (p := ⟨b, off + i, none⟩) h2]
  exact h3 i hi
end Go.Proofs.YtlipnnibagidiaaGreat
