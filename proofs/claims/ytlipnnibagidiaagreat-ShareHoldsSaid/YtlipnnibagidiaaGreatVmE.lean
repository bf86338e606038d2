/- The plain side of ShareHolds: in a world the clauses of shared nodes hold, as the law's assignment says. -/
import Derived.Test.YtlipnnibagidiaaGreatVmC
import Derived.Test.YtlipnnibagidiaaGreatVlZ
import Derived.Test.YtlipnnibagidiaaGreatWrO
import Derived.Laws.OwnMore
import Derived.Deep.RegionHeldLaw
namespace Go.Proofs.YtlipnnibagidiaaGreat
open Go.RowKit Go.Lib
theorem semI_of {T : List Nd} {val : Int → Int} (h : ∀ i : Int, 0 ≤ i → i < T.length → NodeSem T val i) : SemI T val :=
  ⟨fun i h0 h1 => (h i h0 h1).eq, fun i h0 h1 => (h i h0 h1).num, fun i h0 h1 => (h i h0 h1).add, fun i h0 h1 => (h i h0 h1).diff⟩
def toldI (T : List Nd) (val : Int → Int) (i : Int) : Int := if (ndAt T i).sort = 0 then 2 - val i else 0
theorem toldI_nat (T : List Nd) (val : Int → Int) : (fun i : Nat => toldI T val (i : Int)) = toldF T val := rfl
theorem share_vals {T T' : List Nd} (hc : CoreT T) (hs : SumT T) {most : Int} (he : (putS T most).e = 0) (hT : (putS T most).T = T') {val : Int → Int} (h : ∀ i : Int, 0 ≤ i → i < T'.length → NodeSem T' val i) : ∀ c ∈ allT T', ∃ x ∈ c, valM ((List.range T'.length).map (toldF T' val)) x = 1 := by
  have := all_vals (T := T') (a := toldI T' val) (worlds_hold hc hs he hT (semI_of h) (fun i _ _ hs => by unfold toldI; rw [if_pos hs]))
  rw [toldI_nat] at this
  exact this
end Go.Proofs.YtlipnnibagidiaaGreat
