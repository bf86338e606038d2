/- What the laws SatSteps and SatModels want beside. -/
import Derived.Test.YtmbekchnfbmhbaaGreatSrU
namespace Go.Proofs.YtmbekchnfbmhbaaGreat
open Go.RowKit Go.Lib

theorem refutes_more {l l' s : List (List Int)} (hd : ∀ d ∈ l, d ∈ l') (h : refutesM l s = true) : refutesM l' s = true := by
  unfold refutesM at h ⊢
  rw [Bool.and_eq_true, Bool.and_eq_true] at h ⊢
  have h3 := of_decide_eq_true h.2
  have hi := row_index l s 0 (Int.le_refl _)
  have := row_more s 0 (Int.le_refl _) hd (by omega)
  exact ⟨h.1, decide_eq_true (by omega)⟩
theorem cl_fits {n : Nat} {R : List RowT} (hn : n ≤ 25) (hc : CL n (rowsOf R)) : ∀ r ∈ R, r.2.2.length ≤ 50 ∧ ∀ x ∈ r.2.2, x ≤ 9223372036854775807 := fun r hr => by
  have h := hc r.2.2 (List.mem_map.2 ⟨r, hr, rfl⟩)
  have := isC_len h.1 h.2
  exact ⟨by omega, fun x hx => by have := h.2 x hx; omega⟩
theorem rows_take2 (R : List RowT) (k : Nat) {vals : List Int} (h : holdsM vals (rowsOf R) = true) : holdsM vals (rowsOf (R.take k)) = true := by
  rw [← List.take_append_drop k R, show rowsOf (R.take k ++ R.drop k) = rowsOf (R.take k) ++ rowsOf (R.drop k) from List.map_append] at h
  exact holds_app h
end Go.Proofs.YtmbekchnfbmhbaaGreat
