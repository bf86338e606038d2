/- The plain side of layer 12: core tables that are well sorted. -/
import Derived.Test.YtlipnnibagidiaaGreatMk
namespace Go.Proofs.YtlipnnibagidiaaGreat
def litT (T : List Nd) (n : Nd) : Int := 2 * (T.idxOf n : Nat)
theorem litT_half {T : List Nd} {n : Nd} : litT T n / 2 = (T.idxOf n : Nat) ∧ litT T n % 2 = 0 ∧ (litT T n + 1) / 2 = (T.idxOf n : Nat) ∧ (litT T n + 1) % 2 = 1 := by
  unfold litT
  omega
end Go.Proofs.YtlipnnibagidiaaGreat
namespace Go.Proofs.YtlipnnibagidiaaGreat
theorem putT_mem {T : List Nd} {n m : Nd} {most : Int} (h : m ∈ (putT T n most).T) : m ∈ T ∨ m = n := by
  unfold putT at h
  split at h
  · split at h
    · exact .inl h
    · split at h
      · cases h
      · exact (List.mem_append.1 h).imp id fun h => List.mem_singleton.1 h
  · cases h
end Go.Proofs.YtlipnnibagidiaaGreat
namespace Go.Proofs.YtlipnnibagidiaaGreat
def opSort (op s0 s1 s2 : Int) : Option Int :=
  if op = 0 then some 0 else if op = 10 then some 1 else if op = 11 then (if s0 = 1 then some 1 else none) else if op = 1 then (if s0 = 0 then some 0 else none)
  else if op = 2 ∨ op = 3 ∨ op = 4 ∨ op = 5 then (if s0 = 0 ∧ s1 = 0 then some 0 else none) else if op = 8 ∨ op = 9 ∨ op = 12 then (if s0 = 1 ∧ s1 = 1 then some 0 else none)
  else if op = 6 then (if s0 = s1 then some 0 else none) else if op = 7 then (if s0 = 0 ∧ s1 = s2 then some s1 else none) else none
def srtN (T : List Nd) (n : Nd) : Prop := n.op ≠ 13 → opSort n.op (ndAt T n.a0).sort (ndAt T n.a1).sort (ndAt T n.a2).sort = some n.sort
theorem arity_ops {n : Nd} {a : Int} (h : Stands n a) : n.op = 0 ∨ n.op = 1 ∨ n.op = 2 ∨ n.op = 3 ∨ n.op = 4 ∨ n.op = 5 ∨ n.op = 6 ∨ n.op = 7 ∨ n.op = 8 ∨ n.op = 9 ∨ n.op = 10 ∨ n.op = 11 ∨ n.op = 12 ∨ n.op = 13 := by
  obtain ⟨lo, hi, e, _⟩ := h.ar
  unfold arityM at e
  repeat' split at e
  all_goals first
    | omega
    | cases e
theorem srtN_append {T S : List Nd} {n : Nd} {a : Int} (hs : Stands n a) (ha : a ≤ T.length) : srtN (T ++ S) n ↔ srtN T n := by
  have key : ∀ j : Nat, j < 3 → (j : Int) < n.len → ndAt (T ++ S) (n.arg j) = ndAt T (n.arg j) := fun j hj hl => by
    have := hs.arg_lt j hj hl
    exact ndAt_append this.1 (by omega)
  have k0 : (0 : Int) < n.len → ndAt (T ++ S) n.a0 = ndAt T n.a0 := key 0 (by omega)
  have k1 : (1 : Int) < n.len → ndAt (T ++ S) n.a1 = ndAt T n.a1 := key 1 (by omega)
  have k2 : (2 : Int) < n.len → ndAt (T ++ S) n.a2 = ndAt T n.a2 := key 2 (by omega)
  unfold srtN
  have hl := fun lo => hs.len_of (lo := lo)
  rcases arity_ops hs with h | h | h | h | h | h | h | h | h | h | h | h | h | h
  all_goals rw [h] at hl ⊢
  · simp [opSort]
  · have := hl 1 (by decide)
    rw [k0 (by rw [this]; decide)]
    simp [opSort]
  · have := hl 2 (by decide)
    rw [k0 (by rw [this]; decide), k1 (by rw [this]; decide)]
    simp [opSort]
  · have := hl 2 (by decide)
    rw [k0 (by rw [this]; decide), k1 (by rw [this]; decide)]
    simp [opSort]
  · have := hl 2 (by decide)
    rw [k0 (by rw [this]; decide), k1 (by rw [this]; decide)]
    simp [opSort]
  · have := hl 2 (by decide)
    rw [k0 (by rw [this]; decide), k1 (by rw [this]; decide)]
    simp [opSort]
  · have := hl 2 (by decide)
    rw [k0 (by rw [this]; decide), k1 (by rw [this]; decide)]
    simp [opSort]
  · have := hl 3 (by decide)
    rw [k0 (by rw [this]; decide), k1 (by rw [this]; decide), k2 (by rw [this]; decide)]
  · have := hl 2 (by decide)
    rw [k0 (by rw [this]; decide), k1 (by rw [this]; decide)]
    simp [opSort]
  · have := hl 2 (by decide)
    rw [k0 (by rw [this]; decide), k1 (by rw [this]; decide)]
    simp [opSort]
  · simp [opSort]
  · have := hl 1 (by decide)
    rw [k0 (by rw [this]; decide)]
    simp [opSort]
  · have := hl 2 (by decide)
    rw [k0 (by rw [this]; decide), k1 (by rw [this]; decide)]
    simp [opSort]
  · simp
def noeqN (T : List Nd) (n : Nd) : Prop := n.op = 6 → (ndAt T n.a0).sort ≠ 1
theorem noeqN_append {T S : List Nd} {n : Nd} {a : Int} (hs : Stands n a) (ha : a ≤ T.length) : noeqN (T ++ S) n ↔ noeqN T n := by
  unfold noeqN
  by_cases h : n.op = 6
  · have := (hs.two (.inl h)).1
    rw [ndAt_append this.1 (by omega)]
  · simp [h]
structure Well (T : List Nd) : Prop where
  core : CoreT T
  srt : ∀ n ∈ T, srtN T n
  noeq : ∀ n ∈ T, noeqN T n
theorem Well.sum {T : List Nd} (h : Well T) : SumT T := fun n hn ho => by
  have h1 := h.srt n hn (by omega)
  rw [ho] at h1
  unfold opSort at h1
  simp at h1
  exact h1.1
theorem Well.push {T : List Nd} (h : Well T) {n : Nd} (hs : Stands n T.length) (hn : n ∉ T) (ho : ordN T n) (hf : fitB T n = true) (hr : srtN T n) (he : noeqN T n) : Well (T ++ [n]) := by
  refine ⟨h.core.push hs hn ho hf, fun m hm => ?_, fun m hm => ?_⟩
  · rcases List.mem_append.1 hm with hm | hm
    · obtain ⟨i, hi, _, hst⟩ := h.core.ok.stands hm
      exact (srtN_append hst (by omega)).2 (h.srt m hm)
    · obtain rfl := List.mem_singleton.1 hm
      exact (srtN_append hs (by omega)).2 hr
  · rcases List.mem_append.1 hm with hm | hm
    · obtain ⟨i, hi, _, hst⟩ := h.core.ok.stands hm
      exact (noeqN_append hst (by omega)).2 (h.noeq m hm)
    · obtain rfl := List.mem_singleton.1 hm
      exact (noeqN_append hs (by omega)).2 he
structure Ext (T T' : List Nd) : Prop where
  well : Well T'
  ext : ∃ S, T' = T ++ S
theorem Ext.refl {T : List Nd} (h : Well T) : Ext T T := ⟨h, [], by simp⟩
theorem Ext.trans {T T' T2 : List Nd} (h : Ext T T') (k : Ext T' T2) : Ext T T2 := by
  obtain ⟨S, rfl⟩ := h.ext
  obtain ⟨S2, rfl⟩ := k.ext
  exact ⟨k.well, S ++ S2, by rw [List.append_assoc]⟩
theorem Ext.len {T T' : List Nd} (h : Ext T T') : T.length ≤ T'.length := by
  obtain ⟨S, rfl⟩ := h.ext
  rw [List.length_append]
  omega
theorem Ext.at_ {T T' : List Nd} (h : Ext T T') {i : Int} (h0 : 0 ≤ i) (h1 : i < T.length) : ndAt T' i = ndAt T i := by
  obtain ⟨S, rfl⟩ := h.ext
  exact ndAt_append h0 h1
theorem Ext.mem {T T' : List Nd} (h : Ext T T') {n : Nd} (hn : n ∈ T) : n ∈ T' := by
  obtain ⟨S, rfl⟩ := h.ext
  exact List.mem_append.2 (.inl hn)
theorem putT_ext {T : List Nd} (h : Well T) {n : Nd} {most : Int} (ho : ordN T n) (hf : fitB T n = true) (hr : srtN T n) (hq : noeqN T n) (he : (putT T n most).e = 0) : Ext T (putT T n most).T ∧ n ∈ (putT T n most).T ∧ 0 ≤ (putT T n most).id ∧ (putT T n most).id < (putT T n most).T.length ∧ ndAt (putT T n most).T (putT T n most).id = n ∧ (∀ m ∈ (putT T n most).T, m ∈ T ∨ m = n) := by
  obtain ⟨_, hst, _, ⟨k, hid, hk⟩, _⟩ := putT_ok he
  have hmem : n ∈ (putT T n most).T := List.mem_of_getElem? hk
  have hlt := (List.getElem?_eq_some_iff.1 hk).1
  refine ⟨?_, hmem, by omega, by omega, by rw [hid]; exact ndAt_some hk, fun m hm => putT_mem hm⟩
  clear hid hk hlt hmem
  unfold putT at he ⊢
  by_cases h1 : (tabB T && standsB n T.length) = true
  · rw [if_pos h1] at he ⊢
    by_cases h2 : n ∈ T
    · rw [if_pos h2]
      exact .refl h
    · rw [if_neg h2] at he ⊢
      by_cases h3 : most ≤ (T.length : Int)
      · rw [if_pos h3] at he
        cases he
      · rw [if_neg h3]
        exact ⟨h.push hst h2 ho hf hr hq, [n], rfl⟩
  · rw [if_neg h1] at he
    cases he
def iteN (T : List Nd) (i : Int) (a : Int) (s : Int) : Prop :=
  (s = 1 → mayI (difN T i a) = true ∧ diffNd i (baseT T a).1 (difN T i a) ∈ T ∧ diffNd (baseT T a).1 i (difN T a i) ∈ T) ∧ (s ≠ 0 → s ≠ 1 → eqNd (min i a) (max i a) ∈ T)
def IteOk (T : List Nd) : Prop := ∀ (i : Nat) (n : Nd), T[i]? = some n → n.op = 7 → iteN T i n.a1 n.sort ∧ iteN T i n.a2 n.sort
end Go.Proofs.YtlipnnibagidiaaGreat
