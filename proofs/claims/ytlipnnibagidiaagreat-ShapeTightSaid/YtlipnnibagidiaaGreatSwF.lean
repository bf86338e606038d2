/- The shared nodes of a table: share.nodes. -/
import Derived.Test.YtlipnnibagidiaaGreatRfC
import Derived.Shelf.Abstract
namespace Go.Proofs.YtlipnnibagidiaaGreat
open Go.RowKit
open Go.Maps (Keyed)
def OwnL (w : World) (B : Nat) (v : Value) (zs : List Int) : Prop := w.ownsRow B 3 1 v zs.length (zs.map (Value.int .i64))
theorem NdAt.arg {w : World} {b o : Nat} {n : Nd} (h : NdAt w b o n) (k : Nat) (hk : k < 3) : w.cell? ⟨b, o + 2 + k, none⟩ = some (.int .i64 (n.arg k)) := by
  rw [Nat.add_assoc, h.cells (2 + k) (by omega)]
  match k, hk with
  | 0, _ => rfl
  | 1, _ => rfl
  | 2, _ => rfl
end Go.Proofs.YtlipnnibagidiaaGreat
