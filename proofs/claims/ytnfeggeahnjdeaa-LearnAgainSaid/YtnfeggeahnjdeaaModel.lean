/- The plain law's side of layer 19: what a trail is, in lists. -/
namespace Go.Proofs.Ytnfeggeahnjdeaa

structure Pt where
  lit : Int
  level : Int
  reason : Int

structure Tr where
  n : Nat
  L : List Pt
  lv : Nat

def isAt (node : Int) (p : Pt) : Bool := p.lit / 2 == node
def find (L : List Pt) (node : Int) : Option Pt := L.find? (isAt node)
def atOf (L : List Pt) (nd : Nat) : Nat := match L.findIdx? (isAt nd) with
  | some i => i + 1
  | none => 0

structure Tr.Ok (M : Tr) : Prop where
  n : M.n ≤ 65536
  lv : M.lv ≤ 65536
  lit : ∀ p ∈ M.L, 0 ≤ p.lit ∧ p.lit / 2 < M.n
  level : ∀ p ∈ M.L, 0 ≤ p.level ∧ p.level ≤ 65536
  nodup : M.L.Pairwise fun p q => p.lit / 2 ≠ q.lit / 2

theorem nodup_bound : ∀ (n : Nat) (l : List Nat), l.Nodup → (∀ x ∈ l, x < n) → l.length ≤ n
  | 0, [], _, _ => Nat.le_refl _
  | 0, x :: _, _, h => absurd (h x (by simp)) (by omega)
  | n + 1, l, hd, h => by
    have h1 := nodup_bound n (l.erase n) (hd.erase n) fun x hx => by
      have hx' := (hd.mem_erase_iff).1 hx
      have := h x hx'.2
      omega
    have h2 : l.length ≤ (l.erase n).length + 1 := by rw [List.length_erase]; split <;> omega
    omega

theorem Tr.Ok.len {M : Tr} (h : M.Ok) : M.L.length ≤ M.n := by
  have := nodup_bound M.n (M.L.map fun p => (p.lit / 2).toNat) (by
    rw [List.Nodup, List.pairwise_map]
    refine List.Pairwise.imp_of_mem ?_ h.nodup
    intro a b ha hb hab
    have := h.lit a ha
    have := h.lit b hb
    omega) (by
    intro x hx
    obtain ⟨p, hp, rfl⟩ := List.mem_map.1 hx
    have := h.lit p hp
    omega)
  simpa using this

theorem find_some_at {L : List Pt} {node : Nat} {p : Pt} (h : find L node = some p) : ∃ i, ∃ hi : i < L.length, L[i] = p ∧ atOf L node = i + 1 ∧ p.lit / 2 = node := by
  unfold find at h
  have hp := List.find?_some h
  cases hf : L.findIdx? (isAt node) with
  | none =>
    rw [List.findIdx?_eq_none_iff] at hf
    have := hf p (List.mem_of_find?_eq_some h)
    rw [hp] at this
    cases this
  | some i =>
    have hi := List.findIdx?_eq_some_iff_getElem.1 hf
    obtain ⟨hlt, hpi, hbefore⟩ := hi
    refine ⟨i, hlt, ?_, by simp [atOf, hf], by simpa [isAt] using hp⟩
    have : L.find? (isAt node) = some L[i] := by
      rw [List.find?_eq_some_iff_getElem]
      exact ⟨hpi, i, hlt, rfl, fun j hj => by simpa using hbefore j hj⟩
    rw [this] at h
    injection h
theorem find_none_at {L : List Pt} {node : Nat} (h : find L node = none) : atOf L node = 0 := by
  unfold find at h
  rw [List.find?_eq_none] at h
  have : L.findIdx? (isAt node) = none := List.findIdx?_eq_none_iff.2 fun x hx => by simpa using h x hx
  simp [atOf, this]
theorem find_out {M : Tr} (h : M.Ok) {node : Int} (hn : node < 0 ∨ M.n ≤ node) : find M.L node = none := by
  unfold find
  rw [List.find?_eq_none]
  intro p hp hc
  have := h.lit p hp
  simp [isAt] at hc
  omega

theorem find_append (L : List Pt) (p : Pt) (node : Int) : find (L ++ [p]) node = match find L node with
    | some q => some q
    | none => if p.lit / 2 = node then some p else none := by
  unfold find
  rw [List.find?_append]
  cases h : L.find? (isAt node) with
  | some q => simp
  | none =>
    by_cases hp : p.lit / 2 = node
    · simp [isAt, hp]
    · simp [isAt, hp]
theorem atOf_append (L : List Pt) (p : Pt) (nd : Nat) (h : find L (p.lit / 2) = none) (hp : 0 ≤ p.lit) : atOf (L ++ [p]) nd = if (p.lit / 2).toNat = nd then L.length + 1 else atOf L nd := by
  unfold atOf
  rw [List.findIdx?_append]
  by_cases he : (p.lit / 2).toNat = nd
  · rw [if_pos he]
    have e : (nd : Int) = p.lit / 2 := by omega
    have hn : L.findIdx? (isAt nd) = none := by
      unfold find at h
      rw [List.find?_eq_none] at h
      exact List.findIdx?_eq_none_iff.2 fun x hx => by rw [e]; simpa using h x hx
    have h1 : isAt (nd : Int) p = true := by simp [isAt, e]
    simp [hn, List.findIdx?_cons, h1]
  · rw [if_neg he]
    have h1 : isAt (nd : Int) p = false := by
      simp only [isAt, beq_eq_false_iff_ne, ne_eq]
      omega
    cases hL : L.findIdx? (isAt nd) with
    | some i => simp
    | none => simp [List.findIdx?_cons, h1]
theorem Tr.Ok.push {M : Tr} (h : M.Ok) (p : Pt) (h0 : 0 ≤ p.lit) (h1 : p.lit / 2 < M.n) (hf : find M.L (p.lit / 2) = none) (hl : p.level = M.lv) : (⟨M.n, M.L ++ [p], M.lv⟩ : Tr).Ok := by
  refine ⟨h.n, h.lv, ?_, ?_, ?_⟩
  · intro q hq
    rcases List.mem_append.1 hq with hq | hq
    · exact h.lit q hq
    · obtain rfl : q = p := by simpa using hq
      exact ⟨h0, h1⟩
  · intro q hq
    rcases List.mem_append.1 hq with hq | hq
    · exact h.level q hq
    · obtain rfl : q = p := by simpa using hq
      have := h.lv
      omega
  · show (M.L ++ [p]).Pairwise _
    rw [List.pairwise_append]
    refine ⟨h.nodup, by simp, fun a ha b hb => ?_⟩
    obtain rfl : b = p := by simpa using hb
    intro e
    unfold find at hf
    rw [List.find?_eq_none] at hf
    have := hf a ha
    simp [isAt, e] at this

/-- How many stand above a level, from the end on. -/
def above (lev : Int) (L : List Pt) : Nat := (L.reverse.takeWhile fun p => decide (lev < p.level)).length
theorem above_le (lev : Int) (L : List Pt) : above lev L ≤ L.length := by
  have := (List.takeWhile_sublist (p := fun p : Pt => decide (lev < p.level)) (l := L.reverse)).length_le
  simpa [above] using this
theorem above_lt {lev : Int} {L : List Pt} {k : Nat} (hk : k < above lev L) (hi : L.length - 1 - k < L.length) : lev < L[L.length - 1 - k].level := by
  have h1 := List.all_takeWhile (p := fun p : Pt => decide (lev < p.level)) (l := L.reverse)
  rw [List.all_eq_true] at h1
  have h2 := h1 (L.reverse.takeWhile fun p : Pt => decide (lev < p.level))[k] (List.getElem_mem _)
  rw [(List.takeWhile_prefix (p := fun p : Pt => decide (lev < p.level)) (l := L.reverse)).getElem hk, List.getElem_reverse] at h2
  simpa using h2
theorem above_at {lev : Int} {L : List Pt} (hk : above lev L < L.length) : ¬ lev < L[L.length - 1 - above lev L].level := by
  have h := List.takeWhile_append_dropWhile (p := fun p : Pt => decide (lev < p.level)) (l := L.reverse)
  have hd : L.reverse.dropWhile (fun p : Pt => decide (lev < p.level)) ≠ [] := by
    intro e
    rw [e, List.append_nil] at h
    have : above lev L = L.length := by unfold above; rw [h, List.length_reverse]
    omega
  have h1 := List.head_dropWhile_not (fun p : Pt => decide (lev < p.level)) hd
  have h2 : (L.reverse.dropWhile (fun p : Pt => decide (lev < p.level))).head hd = L.reverse[above lev L]'(by simpa using hk) := by
    rw [List.head_eq_getElem]
    have h3 : L.reverse[above lev L]'(by simpa using hk) = (L.reverse.takeWhile (fun p : Pt => decide (lev < p.level)) ++ L.reverse.dropWhile (fun p : Pt => decide (lev < p.level)))[above lev L]'(by rw [h]; simpa using hk) := by
      congr 1; exact h.symm
    rw [h3, List.getElem_append_right (by unfold above; omega)]
    congr 1
    unfold above
    omega
  rw [h2, List.getElem_reverse] at h1
  simpa using h1
theorem find_take_none {L : List Pt} {m : Nat} (hm : m < L.length) (hp : L.Pairwise fun p q => p.lit / 2 ≠ q.lit / 2) : find (L.take m) (L[m].lit / 2) = none := by
  unfold find
  rw [List.find?_eq_none]
  intro q hq
  obtain ⟨i, hi, rfl⟩ := List.mem_take_iff_getElem.1 hq
  have := List.pairwise_iff_getElem.1 hp i m (by omega) hm (by omega)
  simpa [isAt] using this
theorem Tr.Ok.take {M : Tr} (h : M.Ok) (k : Nat) : (⟨M.n, M.L.take k, M.lv⟩ : Tr).Ok :=
  ⟨h.n, h.lv, fun p hp => h.lit p (List.mem_of_mem_take hp), fun p hp => h.level p (List.mem_of_mem_take hp), h.nodup.take⟩
theorem Tr.Ok.lower {M : Tr} (h : M.Ok) (k : Nat) (hk : k ≤ 65536) : (⟨M.n, M.L, k⟩ : Tr).Ok := ⟨h.n, hk, h.lit, h.level, h.nodup⟩

end Go.Proofs.Ytnfeggeahnjdeaa
