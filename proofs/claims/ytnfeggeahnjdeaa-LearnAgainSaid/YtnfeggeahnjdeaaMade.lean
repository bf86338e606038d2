/- What is made of literals: in order, each once, just those that are not below 0. -/
import Derived.Lib.SlicesCompact
namespace Go.Proofs.Ytnfeggeahnjdeaa
open Go.Lib

theorem keeps_iff (d : Array Int) (j : Nat) : keeps d j = true ↔ j = 0 ∨ d[j]! ≠ d[j - 1]! := by
  unfold keeps
  simp

theorem get_le {zs : List Int} (h : zs.Pairwise (· ≤ ·)) {i j : Nat} (hij : i ≤ j) (hj : j < zs.length) : zs[i]'(by omega) ≤ zs[j] := by
  rcases Nat.lt_or_ge i j with h1 | h1
  · exact List.pairwise_iff_getElem.1 h i j (by omega) hj h1
  · obtain rfl : i = j := by omega
    exact Int.le_refl _

theorem compact_lt {zs : List Int} (h : zs.Pairwise (· ≤ ·)) : (compact zs).Pairwise (· < ·) := by
  unfold compact compactUpTo
  rw [List.pairwise_map, List.pairwise_filter]
  refine List.Pairwise.imp_of_mem ?_ (List.pairwise_lt_range (n := zs.length))
  intro i j hi hj hij _ hk
  have hj' := List.mem_range.1 hj
  have hi' := List.mem_range.1 hi
  rcases (keeps_iff _ _).1 hk with h0 | h0
  · omega
  · have a1 := get_le h (show i ≤ j - 1 by omega) (show j - 1 < zs.length by omega)
    have a2 := get_le h (show j - 1 ≤ j by omega) hj'
    have e1 : zs.toArray[j]! = zs[j] := by simp [getElem!_pos, hj']
    have e2 : zs.toArray[j - 1]! = zs[j - 1] := by simp [getElem!_pos, show j - 1 < zs.length by omega]
    have e3 : zs.toArray[i]! = zs[i] := by simp [getElem!_pos, hi']
    rw [e1, e2] at h0
    show zs.toArray[i]! < zs.toArray[j]!
    rw [e1, e3]
    omega

theorem mem_compact {zs : List Int} (x : Int) : x ∈ compact zs ↔ x ∈ zs := by
  unfold compact compactUpTo
  rw [List.mem_map]
  constructor
  · rintro ⟨j, hj, rfl⟩
    have hj' := List.mem_range.1 (List.mem_filter.1 hj).1
    have e1 : zs.toArray[j]! = zs[j] := by simp [getElem!_pos, hj']
    rw [e1]
    exact List.getElem_mem hj'
  · intro hx
    have key : ∀ i : Nat, ∀ h : i < zs.length, zs[i] = x → ∃ j, j ∈ (List.range zs.length).filter (keeps zs.toArray) ∧ zs.toArray[j]! = x := by
      intro i
      induction i with
      | zero =>
        intro h hx
        refine ⟨0, List.mem_filter.2 ⟨List.mem_range.2 h, (keeps_iff _ _).2 (.inl rfl)⟩, ?_⟩
        rw [show zs.toArray[0]! = zs[0] by simp [getElem!_pos, h], hx]
      | succ i ih =>
        intro h hx
        by_cases he : zs[i] = x
        · exact ih (by omega) he
        · have e1 : zs.toArray[i + 1]! = zs[i + 1] := by simp [getElem!_pos, h]
          have e2 : zs.toArray[i + 1 - 1]! = zs[i] := by simp [getElem!_pos, show i < zs.length by omega]
          refine ⟨i + 1, List.mem_filter.2 ⟨List.mem_range.2 h, (keeps_iff _ _).2 (.inr ?_)⟩, ?_⟩
          · rw [e1, e2, hx]
            exact fun e => he e.symm
          · rw [e1, hx]
    obtain ⟨i, hi, e⟩ := List.mem_iff_getElem.1 hx
    exact key i hi e

/-- In order, each once. -/
def Ord (l : List Int) : Prop := l.Pairwise (· < ·)

theorem ord_ext : ∀ {l m : List Int}, Ord l → Ord m → (∀ x, x ∈ l ↔ x ∈ m) → l = m
  | [], [], _, _, _ => rfl
  | [], y :: m, _, _, h => absurd ((h y).2 List.mem_cons_self) (by simp)
  | x :: l, [], _, _, h => absurd ((h x).1 List.mem_cons_self) (by simp)
  | x :: l, y :: m, hl, hm, h => by
    obtain ⟨a1, a2⟩ := List.pairwise_cons.1 hl
    obtain ⟨b1, b2⟩ := List.pairwise_cons.1 hm
    have e : x = y := by
      rcases List.mem_cons.1 ((h x).1 List.mem_cons_self) with e | e
      · exact e
      · rcases List.mem_cons.1 ((h y).2 List.mem_cons_self) with e' | e'
        · exact e'.symm
        · have := a1 y e'; have := b1 x e; omega
    subst e
    refine congrArg (x :: ·) (ord_ext a2 b2 fun z => ?_)
    constructor
    · intro hz
      rcases List.mem_cons.1 ((h z).1 (List.mem_cons_of_mem _ hz)) with e | e
      · have := a1 z hz; omega
      · exact e
    · intro hz
      rcases List.mem_cons.1 ((h z).2 (List.mem_cons_of_mem _ hz)) with e | e
      · have := b1 z hz; omega
      · exact e

theorem made_ord (l : List Int) : Ord (compact (l.mergeSort fun x y => decide (x ≤ y))) := by
  refine compact_lt ?_
  have h := List.pairwise_mergeSort (le := fun x y : Int => decide (x ≤ y)) (fun a b c h1 h2 => by simp at *; omega) (fun a b => by simp; omega) l
  exact h.imp fun h => by simpa using h
theorem made_mem (l : List Int) (x : Int) : x ∈ compact (l.mergeSort fun x y => decide (x ≤ y)) ↔ x ∈ l := by
  rw [mem_compact, List.mem_mergeSort]
end Go.Proofs.Ytnfeggeahnjdeaa
