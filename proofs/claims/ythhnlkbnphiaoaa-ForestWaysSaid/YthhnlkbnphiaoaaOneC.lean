/- One, whole: one contract for all its ways. -/
import Derived.Test.YthhnlkbnphiaoaaOneB
namespace Go.Proofs.Ythhnlkbnphiaoaa
open Go.RowKit
open Go.Maps (Keyed)

/-- Whether two are one, as the joins tell. -/
def oneM (n : Int) (J : List Jn) (x y : Int) : Bool := decide ((0 ≤ x ∧ x < n) ∧ (0 ≤ y ∧ y < n) ∧ cls J x = cls J y)
section
variable {w : World} {B bf bn bp m : Nat} {lj : Value} {N : Int → Value} {n : Int} {J : List Jn}
theorem one_ok (h : FR w B bf bn bp lj N n J m) (hm : m ≤ 1000000) (x y : Int) :
    Calls Try.prog 14 #[.pointer (some ⟨bf, 0, none⟩), .int .i64 x, .int .i64 y] w fun e w' => e = .returned (.bool (oneM n J x y)) ∧ FR w' B bf bn bp lj N n J (m + 1) ∧ Kept (fun b => b = bp) w w' := by
  have hlow : ∀ w', Below w.heap.size w w' → FR w' B bf bn bp lj N n J (m + 1) ∧ Kept (fun b => b = bp) w w' := fun w' hb => ⟨(h.below hb).more, (Kept.of_below hb).mono fun _ _ h => h⟩
  by_cases hxy : (0 ≤ x ∧ x < n) ∧ (0 ≤ y ∧ y < n)
  · obtain ⟨f, hf, hf2⟩ := h.pairs
    rcases hf2 (min x y) (max x y) with hn | ⟨hs, hc⟩
    · refine (one_walk h hm x y hxy.1 hxy.2 f hf hn).mono ?_
      rintro e w' ⟨rfl, h1, h2⟩
      refine ⟨?_, h1, h2⟩
      unfold oneM
      simp only [hxy.1, hxy.2, true_and, and_self]
    · refine (one_hit h x y hxy.1 hxy.2 f hf hs).mono ?_
      rintro e w' ⟨rfl, hb⟩
      refine ⟨?_, hlow w' hb⟩
      have hcl : cls J x = cls J y := by
        have := cls_conn hc
        rcases Int.le_total x y with hle | hle
        · rwa [Int.min_eq_left hle, Int.max_eq_right hle] at this
        · rw [Int.min_eq_right hle, Int.max_eq_left hle] at this
          exact this.symm
      rw [show oneM n J x y = true from decide_eq_true ⟨hxy.1, hxy.2, hcl⟩]
  · refine (one_out h x y hxy).mono ?_
    rintro e w' ⟨rfl, hb⟩
    refine ⟨?_, hlow w' hb⟩
    rw [show oneM n J x y = false from decide_eq_false fun hc => hxy ⟨hc.1, hc.2.1⟩]
end
end Go.Proofs.Ythhnlkbnphiaoaa
