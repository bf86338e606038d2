/- gantrylaw26.wakes. -/
import Derived.Test.YtlipnnibagidiaaGreatRdC
import Derived.Shelf.Abstract
import Derived.Lib.SliceRun
import Derived.Laws.OwnMore
namespace Go.Proofs.YtlipnnibagidiaaGreat
open Go.RowKit Go.Lib
open Go.Maps (Keyed)
attribute [local go_sem] Oper.semAt_some
theorem GridV.nil (N : Nat → Prop) (w : World) : GridV N w (.slice none 0 0) [] := ⟨by simp, ⟨none, 0, rfl, fun _ => rfl, Nat.le_refl _, .inl rfl⟩, fun r hr => by cases hr⟩
end Go.Proofs.YtlipnnibagidiaaGreat
namespace Go.Proofs.YtlipnnibagidiaaGreat
open Go.RowKit Go.Lib
open Go.Maps (Keyed)
attribute [local go_sem] Oper.semAt_some
def NewOwn (w : World) (e : Ending) (w' : World) : Prop := ∃ g, e = .returned (.agg #[.slice (some ⟨g, 0, none⟩) 2 2]) ∧ w'.ownsRow w.heap.size 51 8 (.slice (some ⟨g, 0, none⟩) 2 2) 2 (twoNd.flatMap nodeCells) ∧ Below w.heap.size w w'
theorem rnew_own (w : World) : Calls Tryz.prog 41 #[] w (NewOwn w) := by
  have H : Hid (NewOwn w (.returned (.agg #[.slice (some ⟨w.heap.size + 1, 0, none⟩) 2 2])) ((w.alloc (.cells #[.slice (some ⟨w.heap.size + 1, 0, none⟩) 2 2] 33)).alloc (.cells (twoNd.flatMap nodeCells).toArray 51))) := Lib.hid ⟨_, rfl, ⟨rfl, .inr ⟨_, 2, (twoNd.flatMap nodeCells).toArray, rfl, by omega, Blk.new_at (by simp) _ _, by decide, by decide, rfl, rfl⟩⟩, ((Below.refl _ w).alloc (Nat.le_refl _) _).alloc (by simp) _⟩
  go_enter Tryz.func41, Tryz.ntmps41
  go_wp2
  refine bodyPost_ret (v := .agg #[.slice (some ⟨w.heap.size + 1, 0, none⟩) 2 2]) (by simp [results, Tryz.results41, go_sem]) rfl ?_
  exact H.out
end Go.Proofs.YtlipnnibagidiaaGreat
