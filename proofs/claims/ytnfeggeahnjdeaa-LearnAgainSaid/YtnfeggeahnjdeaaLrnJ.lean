/- Where literals stand, and what a resolved clause holds. -/
import Derived.Test.YtnfeggeahnjdeaaLrnI
namespace Go.Proofs.Ytnfeggeahnjdeaa
open Go.RowKit Go.Lib

theorem lits_ne {M : Tr} (h : M.Ok) : (litsM M).Pairwise (· ≠ ·) := by
  unfold litsM
  rw [List.pairwise_map]
  exact h.nodup.imp fun h e => h (by rw [e])
theorem lits_range {M : Tr} (h : M.Ok) {x : Int} (hx : x ∈ litsM M) : 0 ≤ x ∧ x ≤ 131071 := by
  unfold litsM at hx
  obtain ⟨p, hp, rfl⟩ := List.mem_map.1 hx
  have := h.lit p hp
  have := h.n
  omega
theorem posOf_at {l : List Int} (h : l.Pairwise (· ≠ ·)) {k : Nat} (hk : k < l.length) : posOf l l[k] = some k := by
  unfold posOf
  rw [List.findIdx?_eq_some_iff_getElem]
  refine ⟨hk, by simp, fun j hj => ?_⟩
  have := (List.pairwise_iff_getElem.1 h) j k (by omega) hk hj
  simpa using this
theorem posOf_none {l : List Int} {x : Int} (h : x ∉ l) : posOf l x = none := by
  unfold posOf
  rw [List.findIdx?_eq_none_iff]
  intro y hy
  simp only [beq_eq_false_iff_ne]
  rintro rfl
  exact h hy
theorem posOf_mem {l : List Int} {x : Int} {k : Nat} (h : posOf l x = some k) : x ∈ l := by
  false_or_by_contra
  rename_i hn
  rw [posOf_none hn] at h
  cases h
theorem posOf_succ {l : List Int} {i : Nat} (h : i < l.length) {x : Int} (hx : x ≠ l[i]) : posOf (l.take (i + 1)) x = posOf (l.take i) x := by
  unfold posOf
  rw [List.take_succ_eq_append_getElem h, List.findIdx?_append]
  have : ([l[i]].findIdx? fun y => y == x) = none := by
    rw [List.findIdx?_eq_none_iff]
    intro y hy
    rw [List.mem_singleton.1 hy, beq_eq_false_iff_ne]
    exact fun e => hx e.symm
  rw [this]
  simp
theorem posF_at {M : Tr} (hn : (litsM M).Pairwise (· ≠ ·)) {i : Nat} (h : i < (litsM M).length) : posF M (i + 1) (.int .i64 (litsM M)[i]) = some (.int .i64 (i : Nat)) := by
  have h1 := posOf_at (l := (litsM M).take (i + 1)) (hn.sublist (List.take_sublist _ _)) (k := i) (by rw [List.length_take]; omega)
  rw [List.getElem_take] at h1
  show (posOf _ _).map _ = _
  rw [h1]
  rfl
theorem posF_far {M : Tr} {i : Nat} (h : i < (litsM M).length) (x : Value) (hx : x ≠ .int .i64 (litsM M)[i]) : posF M (i + 1) x = posF M i x := by
  unfold posF
  split
  · rename_i y
    rw [posOf_succ h (fun e => hx (by rw [e]))]
  · rfl
theorem posF_zero (M : Tr) (x : Value) : posF M 0 x = none := by
  unfold posF
  split
  · rfl
  · rfl
theorem litsM_len (M : Tr) : (litsM M).length = M.L.length := by unfold litsM; rw [List.length_map]

/-- A clause of literals that are all false on the trail. -/
structure FalseC (M : Tr) (c : List Int) : Prop where
  neg : ∀ x ∈ c, 0 ≤ x ∧ negM x ∈ litsM M
  len : c.length ≤ 131072

theorem negM_neg {x : Int} (_h : 0 ≤ x) : negM (negM x) = x := by
  unfold negM
  split <;> split <;> omega
theorem negM_range {x : Int} (h : 0 ≤ x) (h1 : x ≤ 131071) : 0 ≤ negM x ∧ negM x ≤ 131071 := by
  unfold negM
  split <;> omega
theorem FalseC.range {M : Tr} {c : List Int} (hM : M.Ok) (h : FalseC M c) {x : Int} (hx : x ∈ c) : 0 ≤ x ∧ x ≤ 131071 := by
  have h1 := h.neg x hx
  have h2 := lits_range hM h1.2
  have h3 := negM_range h2.1 h2.2
  rw [negM_neg h1.1] at h3
  exact h3
theorem ord_len {c : List Int} (h : c.Pairwise (· < ·)) (hr : ∀ x ∈ c, 0 ≤ x ∧ x ≤ 131071) : c.length ≤ 131072 := by
  have := nodup_bound 131072 (c.map Int.toNat) (by
    unfold List.Nodup
    rw [List.pairwise_map]
    refine (h.imp_of_mem (S := fun a b => a.toNat ≠ b.toNat) fun ha hb hlt => ?_)
    have := hr _ ha
    have := hr _ hb
    omega) (by
    intro x hx
    obtain ⟨y, hy, rfl⟩ := List.mem_map.1 hx
    have := hr y hy
    omega)
  rwa [List.length_map] at this
theorem makeM_ord (l : List Int) : (makeM l).Pairwise (· < ·) := made_ord _
theorem mem_makeM {l : List Int} {x : Int} : x ∈ makeM l ↔ x ∈ l ∧ 0 ≤ x := by
  unfold makeM
  rw [made_mem, List.mem_filter]
  simp
theorem mem_resM {cl c : List Int} {put x : Int} : x ∈ resM cl c put ↔ ((x ∈ cl ∧ x ≠ put) ∨ (x ∈ c ∧ x ≠ negM put)) ∧ 0 ≤ x := by
  unfold resM
  rw [mem_makeM, List.mem_append]
  unfold woM
  simp
theorem FalseC.res {M : Tr} {cl c : List Int} {put : Int} {kp : Nat} (hM : M.Ok) (h : FalseC M c) (hm : mayRes M kp put cl = true) : FalseC M (resM cl c put) := by
  have hneg : ∀ x ∈ resM cl c put, 0 ≤ x ∧ negM x ∈ litsM M := by
    intro x hx
    obtain ⟨h1, h2⟩ := mem_resM.1 hx
    refine ⟨h2, ?_⟩
    rcases h1 with ⟨h3, h4⟩ | ⟨h3, _⟩
    · unfold mayRes at hm
      rw [Bool.and_eq_true, List.all_eq_true] at hm
      have := hm.1 x h3
      rw [Bool.or_eq_true] at this
      rcases this with h5 | h5
      · exact absurd (by simpa using h5) h4
      · unfold ahead at h5
        split at h5
        · rename_i k hk
          exact posOf_mem hk
        · cases h5
    · exact (h.neg x h3).2
  refine ⟨hneg, ord_len (makeM_ord _) fun x hx => ?_⟩
  have h1 := hneg x hx
  have h2 := lits_range hM h1.2
  have h3 := negM_range h2.1 h2.2
  rw [negM_neg h1.1] at h3
  exact h3
theorem valOf_two {M : Tr} {x : Int} (h : valOf M.L x = 2) (_h0 : 0 ≤ x) : negM x ∈ litsM M := by
  unfold valOf at h
  split at h
  · rename_i p hp
    unfold find at hp
    have h1 := List.mem_of_find?_eq_some hp
    have h2 := List.find?_some hp
    unfold isAt at h2
    have h3 : p.lit / 2 = x / 2 := by simpa using h2
    unfold valAt at h
    unfold litsM
    refine List.mem_map.2 ⟨p, h1, ?_⟩
    unfold negM
    split at h
    · omega
    · split <;> omega
  · omega
theorem FalseC.of_level {M : Tr} (hM : M.Ok) {c : List Int} {lv : Int} (h : levelM M c = some lv) : FalseC M c := by
  unfold levelM at h
  split at h
  · rename_i hc
    have h0 := isC_nonneg hc
    have hall : ∀ (c : List Int) (n m : Int), levelGo M c n = some m → ∀ x ∈ c, valOf M.L x = 2 := by
      intro c
      induction c with
      | nil => intro n m _ x hx; cases hx
      | cons y r ih =>
        intro n m hm x hx
        unfold levelGo at hm
        split at hm
        · rename_i hv
          rcases List.mem_cons.1 hx with rfl | hx
          · exact hv
          · exact ih _ _ hm x hx
        · cases hm
    have hneg : ∀ x ∈ c, 0 ≤ x ∧ negM x ∈ litsM M := fun x hx => ⟨h0 x hx, valOf_two (hall c 0 lv h x hx) (h0 x hx)⟩
    refine ⟨hneg, ord_len ?_ fun x hx => ?_⟩
    · have : c = makeM c := by unfold isC at hc; exact eq_of_beq hc
      rw [this]
      exact makeM_ord _
    · have h1 := hneg x hx
      have h2 := lits_range hM h1.2
      have h3 := negM_range h2.1 h2.2
      rw [negM_neg h1.1] at h3
      exact h3
  · cases h
end Go.Proofs.Ytnfeggeahnjdeaa
