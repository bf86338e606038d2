/- Contains, IndexFunc, ContainsFunc over rows of ints; Idle. -/
import Derived.Test.YtnfeggeahnjdeaaClA
import Derived.Test.YtnfeggeahnjdeaaShelf
namespace Go.Proofs.Ytnfeggeahnjdeaa
open Go.RowKit

theorem contains_ok {w : World} {A : Option Addr} {zs : List Int} (cap : Nat) (h : Row .i64 w A zs) (x : Int) :
    Calls Try.prog 41 #[.slice A zs.length cap, .int .i64 x] w fun e w' => e = .returned (.bool (decide (x ∈ zs))) ∧ w = w' := by
  have hl := h.len
  rcases h.at_ with h0 | ⟨b, off, rfl, hb, hc⟩
  · have hz : zs = [] := List.eq_nil_of_length_eq_zero h0
    subst hz
    exact (Try.slices_Contains_int_empty A cap x w).mono fun e w' ⟨h1, h2⟩ => ⟨by rw [h1]; simp, h2.symm⟩
  · refine (Try.slices_Contains_int b off zs.length cap zs x w (Nat.le_refl _) (by omega) (fun j hj => ?_)).mono fun e w' ⟨h1, h2⟩ => ⟨?_, h2.symm⟩
    · rw [hc j hj, List.getD_eq_getElem?_getD, List.getElem?_eq_getElem hj]; rfl
    · rw [h1, List.take_of_length_le (Nat.le_refl _), List.contains_eq_mem]

/-- The first place of which p holds; -1 if there is none. -/
def idxF (p : Int → Bool) : List Int → Nat → Int
  | [], _ => -1
  | x :: r, i => if p x then i else idxF p r (i + 1)
theorem idxF_any (p : Int → Bool) : ∀ (zs : List Int) (i : Nat), decide (0 ≤ idxF p zs i) = zs.any p
  | [], i => rfl
  | x :: r, i => by
    unfold idxF
    rw [List.any_cons]
    cases hp : p x with
    | true => simp
    | false =>
      rw [if_neg (by decide), Bool.false_or]
      exact idxF_any p r (i + 1)

/-- A literal's negation. -/
def negM (x : Int) : Int := if x % 2 = 0 then x + 1 else x - 1
end Go.Proofs.Ytnfeggeahnjdeaa
