/- The heap, as it lies. -/
import Derived.Test.YtmbekchnfbmhbaaGreatTrailL
import Derived.Deep.RegionHeld3
namespace Go.Proofs.YtmbekchnfbmhbaaGreat
open Go.RowKit Go.Lib

/-- A row of ints of one's own, and where its cells lie. -/
structure IRowAt (w : World) (B : Nat) (v : Value) (xs : List Int) : Prop where
  own : w.ownsRow B 3 1 v xs.length (xs.map (Value.int .i64))
  len : xs.length ≤ 65536

theorem IRowAt.form {w : World} {B : Nat} {v : Value} {xs : List Int} (h : IRowAt w B v xs) (h0 : 0 < xs.length) : ∃ g cap, v = .slice (some ⟨g, 0, none⟩) xs.length cap ∧ B ≤ g ∧ g < w.heap.size ∧ xs.length ≤ cap ∧ (∀ (i : Nat) (hi : i < xs.length), w.cell? ⟨g, i, none⟩ = some (.int .i64 xs[i])) ∧ (∀ i, w.frozen? ⟨g, i, none⟩ = false) := by
  obtain ⟨g, cap, rfl, h1, h2, h3⟩ := own_form h.own h0
  refine ⟨g, cap, rfl, h1, h2, h3, fun i hi => ?_, fun i => own_frozen h.own i⟩
  have := h.own.cells (g := g) rfl i (.int .i64 xs[i]) (by simp [hi])
  rw [addr_add] at this
  exact this
theorem IRowAt.set {w : World} {B g cap : Nat} {xs : List Int} {v : Value} (h : IRowAt w B v xs) (hv : v = .slice (some ⟨g, 0, none⟩) xs.length cap) (i : Nat) (u : Int) : IRowAt (w.setCell ⟨g, i, none⟩ (.int .i64 u)) B v (xs.set i u) := by
  subst hv
  refine ⟨?_, by rw [List.length_set]; exact h.len⟩
  have := (h.own.stored i (.int .i64 u)).1
  rw [List.length_set, List.map_set]
  exact this
theorem IRowAt.kept {S : Nat → Prop} {w w' : World} {B : Nat} {v : Value} {xs : List Int} (h : IRowAt w B v xs) (hk : Kept S w w') (hs : ∀ g, v.ownBlock = some g → ¬ S g) : IRowAt w' B v xs := ⟨own_kept h.own hk hs, h.len⟩
theorem IRowAt.far {w : World} {B : Nat} {v : Value} {xs : List Int} (h : IRowAt w B v xs) (g i : Nat) (u : Value) (hs : v.ownBlock ≠ some g) : IRowAt (w.setCell ⟨g, i, none⟩ u) B v xs :=
  h.kept (Kept.set1 w g i u) (fun g' hg e => hs (by rw [hg, e]))
theorem IRowAt.drewN {w : World} {B : Nat} {v : Value} {xs : List Int} (h : IRowAt w B v xs) (n : Nat) : IRowAt (w.drewN n) B v xs := ⟨own_drewN h.own n, h.len⟩

def nats (l : List Nat) : List Int := List.map (fun x : Nat => (x : Int)) l
theorem nats_len (l : List Nat) : (nats l).length = l.length := by simp [nats]
theorem nats_set (l : List Nat) (i x : Nat) : nats (l.set i x) = (nats l).set i x := by simp [nats, List.map_set]
theorem nats_get (l : List Nat) (i : Nat) (h : i < (nats l).length) : (nats l)[i] = ((l[i]'(by rw [nats_len] at h; exact h) : Nat) : Int) := by simp [nats]

/-- The heap: activities, the nodes in their places, where each node stands. -/
structure HP (w : World) (B bh : Nat) (va vr vt : Value) (la : List Int) (lr : List Nat) (lp : List Int) : Prop where
  blk : Blk w bh 68 #[va, vr, vt]
  act : IRowAt w B va la
  rows : IRowAt w B vr (nats lr)
  at_ : IRowAt w B vt lp
  ar : ∀ g, va.ownBlock = some g → vr.ownBlock ≠ some g
  at2 : ∀ g, va.ownBlock = some g → vt.ownBlock ≠ some g
  rt : ∀ g, vr.ownBlock = some g → vt.ownBlock ≠ some g
  hb : B ≤ bh

/-- What holds of it: n nodes, each out or where it stands. -/
structure HOk (n : Nat) (lr : List Nat) (lp : List Int) : Prop where
  at_ : lp.length = n
  node : ∀ x ∈ lr, x < n
  place : ∀ (i : Nat) (h : i < lr.length), lp[lr[i]]? = some (i : Int)
  out : ∀ (v : Nat), v < n → v ∉ lr → lp[v]? = some (-1)

theorem HOk.inj {n : Nat} {lr : List Nat} {lp : List Int} (h : HOk n lr lp) {i k : Nat} (hi : i < lr.length) (hk : k < lr.length) (e : lr[i] = lr[k]) : i = k := by
  have h1 := h.place i hi
  have h2 := h.place k hk
  rw [e, h2] at h1
  injection h1 with h1
  omega
def swapL (lr : List Nat) (i k : Nat) : List Nat := if h : i < lr.length ∧ k < lr.length then (lr.set i lr[k]).set k lr[i] else lr
def swapP (lr : List Nat) (lp : List Int) (i k : Nat) : List Int := if h : i < lr.length ∧ k < lr.length then (lp.set lr[k] i).set lr[i] k else lp
theorem swapL_len (lr : List Nat) (i k : Nat) : (swapL lr i k).length = lr.length := by
  unfold swapL
  split <;> simp
theorem swapL_get {lr : List Nat} {i k : Nat} (hi : i < lr.length) (hk : k < lr.length) {j : Nat} (hj : j < (swapL lr i k).length) : (swapL lr i k)[j] = if j = k then lr[i] else if j = i then lr[k] else lr[j]'(by rw [swapL_len] at hj; exact hj) := by
  have hL : swapL lr i k = (lr.set i lr[k]).set k lr[i] := by unfold swapL; rw [dif_pos ⟨hi, hk⟩]
  rw [List.getElem_of_eq hL hj, List.getElem_set, List.getElem_set]
  by_cases h1 : k = j
  · subst h1; simp
  · rw [if_neg h1, if_neg (show ¬ j = k from fun e => h1 e.symm)]
    by_cases h2 : i = j
    · subst h2; simp
    · rw [if_neg h2, if_neg (show ¬ j = i from fun e => h2 e.symm)]
theorem swapL_mem {lr : List Nat} {i k x : Nat} : x ∈ swapL lr i k ↔ x ∈ lr := by
  by_cases h : i < lr.length ∧ k < lr.length
  · obtain ⟨hi, hk⟩ := h
    constructor
    · intro hx
      obtain ⟨j, hj, e⟩ := List.mem_iff_getElem.1 hx
      rw [swapL_get hi hk hj] at e
      split at e
      · exact e ▸ List.getElem_mem _
      · split at e
        · exact e ▸ List.getElem_mem _
        · exact e ▸ List.getElem_mem _
    · intro hx
      obtain ⟨j, hj, e⟩ := List.mem_iff_getElem.1 hx
      by_cases h1 : j = i
      · subst h1
        have hk2 : k < (swapL lr j k).length := by rw [swapL_len]; exact hk
        have := swapL_get hi hk hk2
        rw [if_pos rfl, e] at this
        exact this ▸ List.getElem_mem _
      · by_cases h2 : j = k
        · subst h2
          have hi2 : i < (swapL lr i j).length := by rw [swapL_len]; exact hi
          have := swapL_get hi hk hi2
          rw [if_neg (fun e => h1 e.symm), if_pos rfl, e] at this
          exact this ▸ List.getElem_mem _
        · have hj2 : j < (swapL lr i k).length := by rw [swapL_len]; exact hj
          have := swapL_get hi hk hj2
          rw [if_neg h2, if_neg h1, e] at this
          exact this ▸ List.getElem_mem _
  · unfold swapL
    rw [dif_neg h]
theorem HOk.swap {n : Nat} {lr : List Nat} {lp : List Int} (h : HOk n lr lp) {i k : Nat} (hi : i < lr.length) (hk : k < lr.length) : HOk n (swapL lr i k) (swapP lr lp i k) := by
  have hxi := h.node _ (List.getElem_mem hi)
  have hxk := h.node _ (List.getElem_mem hk)
  have hat := h.at_
  have hP : swapP lr lp i k = (lp.set lr[k] i).set lr[i] k := by unfold swapP; rw [dif_pos ⟨hi, hk⟩]
  have hl : ∀ v, (swapP lr lp i k)[v]? = if lr[i] = v then some (k : Int) else if lr[k] = v then some (i : Int) else lp[v]? := by
    intro v
    rw [hP, List.getElem?_set, List.getElem?_set]
    by_cases h1 : lr[i] = v
    · rw [if_pos h1, if_pos (by rw [List.length_set]; omega), if_pos h1]
    · rw [if_neg h1, if_neg h1]
      by_cases h2 : lr[k] = v
      · rw [if_pos h2, if_pos (by omega), if_pos h2]
      · rw [if_neg h2, if_neg h2]
  refine ⟨?_, fun x hx => h.node x (swapL_mem.1 hx), fun j hj => ?_, fun v hv hn => ?_⟩
  · rw [hP]; simp [hat]
  · have hj' : j < lr.length := by rw [swapL_len] at hj; exact hj
    rw [swapL_get hi hk hj, hl]
    by_cases h1 : j = k
    · subst h1; simp
    · rw [if_neg h1]
      by_cases h2 : j = i
      · subst h2
        rw [if_pos rfl, if_neg (fun e => h1 (h.inj hi hk e)), if_pos rfl]
      · rw [if_neg h2, if_neg (fun e => h2 (h.inj hi hj' e).symm), if_neg (fun e => h1 (h.inj hk hj' e).symm)]
        exact h.place j hj'
  · have hn' : v ∉ lr := fun hm => hn (swapL_mem.2 hm)
    rw [hl, if_neg (show ¬ lr[i] = v from fun e => hn' (e ▸ List.getElem_mem _)), if_neg (show ¬ lr[k] = v from fun e => hn' (e ▸ List.getElem_mem _))]
    exact h.out v hv hn'
end Go.Proofs.YtmbekchnfbmhbaaGreat
