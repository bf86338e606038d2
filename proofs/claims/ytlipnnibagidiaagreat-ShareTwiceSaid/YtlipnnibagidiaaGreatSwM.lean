/- Marks on nodes: which are shared. -/
import Derived.Test.YtlipnnibagidiaaGreatShS
namespace Go.Proofs.YtlipnnibagidiaaGreat

def SelfM (n : Nd) (j i : Int) : Prop := 0 < n.len ∧ n.sort = 1 ∧ i = j
def ArgM (T : List Nd) (n : Nd) (q : Nat) (i : Int) : Prop := ∃ r : Nat, r < q ∧ n.arg r = i ∧ (ndAt T i).sort = 1
/-- What the first k nodes mark. -/
def Mark (T : List Nd) (k : Nat) (i : Int) : Prop := ∃ (j : Nat) (n : Nd), j < k ∧ T[j]? = some n ∧ n.op = 13 ∧ (SelfM n j i ∨ ArgM T n n.len.toNat i)
theorem Mark.zero (T : List Nd) (i : Int) : ¬ Mark T 0 i := fun ⟨_, _, h, _⟩ => by omega
theorem Mark.step {T : List Nd} {k : Nat} {n : Nd} (hn : T[k]? = some n) (i : Int) : Mark T (k + 1) i ↔ Mark T k i ∨ (n.op = 13 ∧ (SelfM n k i ∨ ArgM T n n.len.toNat i)) := by
  constructor
  · rintro ⟨j, m, hj, hm, ho, h⟩
    by_cases hjk : j = k
    · subst hjk
      rw [hn] at hm
      injection hm with hm
      subst hm
      exact .inr ⟨ho, h⟩
    · exact .inl ⟨j, m, by omega, hm, ho, h⟩
  · rintro (⟨j, m, hj, hm, ho, h⟩ | ⟨ho, h⟩)
    · exact ⟨j, m, by omega, hm, ho, h⟩
    · exact ⟨k, n, by omega, hn, ho, h⟩
theorem ArgM.zero (T : List Nd) (n : Nd) (i : Int) : ¬ ArgM T n 0 i := fun ⟨_, h, _⟩ => by omega
theorem ArgM.step (T : List Nd) (n : Nd) (q : Nat) (i : Int) : ArgM T n (q + 1) i ↔ ArgM T n q i ∨ (n.arg q = i ∧ (ndAt T i).sort = 1) := by
  constructor
  · rintro ⟨r, hr, h1, h2⟩
    by_cases hq : r = q
    · subst hq
      exact .inr ⟨h1, h2⟩
    · exact .inl ⟨r, by omega, h1, h2⟩
  · rintro (⟨r, hr, h1, h2⟩ | ⟨h1, h2⟩)
    · exact ⟨r, by omega, h1, h2⟩
    · exact ⟨q, by omega, h1, h2⟩
theorem arg3 (n : Nd) : n.arg 0 = n.a0 ∧ n.arg 1 = n.a1 ∧ n.arg 2 = n.a2 := ⟨rfl, rfl, rfl⟩
theorem argM_iff {T : List Nd} {n : Nd} (hl : n.len ≤ 3) (i : Int) : ArgM T n n.len.toNat i ↔ (ndAt T i).sort = 1 ∧ ((0 < n.len ∧ n.a0 = i) ∨ (1 < n.len ∧ n.a1 = i) ∨ (2 < n.len ∧ n.a2 = i)) := by
  obtain ⟨e0, e1, e2⟩ := arg3 n
  constructor
  · rintro ⟨r, hr, h1, h2⟩
    refine ⟨h2, ?_⟩
    rcases (by omega : r = 0 ∨ r = 1 ∨ r = 2) with rfl | rfl | rfl
    · exact .inl ⟨by omega, by rw [← e0]; exact h1⟩
    · exact .inr (.inl ⟨by omega, by rw [← e1]; exact h1⟩)
    · exact .inr (.inr ⟨by omega, by rw [← e2]; exact h1⟩)
  · rintro ⟨h2, ⟨hl0, h⟩ | ⟨hl0, h⟩ | ⟨hl0, h⟩⟩
    · exact ⟨0, by omega, by rw [e0]; exact h, h2⟩
    · exact ⟨1, by omega, by rw [e1]; exact h, h2⟩
    · exact ⟨2, by omega, by rw [e2]; exact h, h2⟩
theorem mark_all {T : List Nd} (hl : ∀ n ∈ T, n.len ≤ 3) {i : Nat} (hi : i < T.length) : Mark T T.length i ↔ sharedB T i = true := by
  have hat := ndAt_nat hi
  unfold sharedB
  simp only [Bool.or_eq_true, Bool.and_eq_true, decide_eq_true_eq, List.any_eq_true]
  constructor
  · rintro ⟨j, n, hj, hn, ho, ⟨h1, h2, h3⟩ | h⟩
    · obtain rfl : i = j := by omega
      have e : ndAt T i = n := ndAt_some hn
      rw [e]
      exact .inl ⟨⟨ho, h1⟩, h2⟩
    · obtain ⟨h1, h2⟩ := (argM_iff (hl n (List.mem_of_getElem? hn)) i).1 h
      exact .inr ⟨h1, n, List.mem_of_getElem? hn, ho, by rcases h2 with h2 | h2 | h2 <;> simp [h2]⟩
  · rintro (⟨⟨ho, h1⟩, h2⟩ | ⟨h1, n, hn, ho, h2⟩)
    · refine ⟨i, ndAt T i, hi, ?_, ho, .inl ⟨h1, h2, rfl⟩⟩
      rw [hat]
      exact List.getElem?_eq_getElem hi
    · obtain ⟨j, hj, rfl⟩ := List.mem_iff_getElem.1 hn
      refine ⟨j, T[j], hj, List.getElem?_eq_getElem hj, ho, .inr ((argM_iff (hl _ hn) i).2 ⟨h1, ?_⟩)⟩
      rcases h2 with (h2 | h2) | h2
      · exact .inl h2
      · exact .inr (.inl h2)
      · exact .inr (.inr h2)
/-- The shared nodes below a place. -/
def nodesTo (T : List Nd) (k : Nat) : List Int := ((List.range k).filter (sharedB T)).map fun (i : Nat) => (i : Int)
theorem nodesTo_all (T : List Nd) : nodesTo T T.length = nodesT T := rfl
theorem nodesTo_step (T : List Nd) (k : Nat) : nodesTo T (k + 1) = nodesTo T k ++ (if sharedB T k = true then [(k : Int)] else []) := by
  unfold nodesTo
  rw [List.range_succ, List.filter_append, List.map_append]
  congr 1
  by_cases h : sharedB T k = true <;> simp [h]
theorem nodesTo_len (T : List Nd) (k : Nat) : (nodesTo T k).length ≤ k := by
  unfold nodesTo
  rw [List.length_map]
  have := List.length_filter_le (sharedB T) (List.range k)
  rwa [List.length_range] at this
end Go.Proofs.YtlipnnibagidiaaGreat
