/- What the ways of a forest are to each other. -/
import Derived.Test.YthhnlkbnphiaoaaCounts
import Derived.Test.YthhnlkbnphiaoaaLawC
namespace Go.Proofs.Ythhnlkbnphiaoaa
open Go.RowKit

theorem mod_range {a n : Int} (h : 1 ≤ n ∧ n ≤ 40) : 0 ≤ (wrap64 (a.tmod n + n)).tmod n ∧ (wrap64 (a.tmod n + n)).tmod n < n := by
  have h1 := Int.lt_tmod_of_pos a (show (0 : Int) < n by omega)
  have h2 := Int.tmod_lt_of_pos a (show (0 : Int) < n by omega)
  generalize a.tmod n = t at *
  have hw : wrap64 (t + n) = t + n := by unfold wrap64; omega
  rw [hw]
  exact ⟨Int.tmod_nonneg _ (by omega), Int.tmod_lt_of_pos _ (by omega)⟩

theorem oneM_in {n : Int} {J : List Jn} {y x : Int} (hy : 0 ≤ y ∧ y < n) (hx : 0 ≤ x ∧ x < n) : oneM n J y x = decide (cls J y = cls J x) := by
  unfold oneM
  simp only [hy, hx, and_self, true_and]

/-- A path, and one edge more behind it. -/
theorem Path.snoc {J : List Jn} {x y z r : Int} {ns rs : List Int} (h : Path J x y ns rs) (e : Edge J y z r) (hn : z ∉ ns) : Path J x z (ns ++ [z]) (rs ++ [r]) := by
  induction h with
  | nil x => exact .cons e (.nil z) (by simpa using fun h => hn (by simp [h]))
  | @cons x u y q ns rs e' p hx ih =>
    refine .cons e' (ih e (fun h => hn (List.mem_cons_of_mem _ h))) (fun h => ?_)
    rcases List.mem_append.1 h with h | h
    · exact hx h
    · exact hn (by rw [List.mem_singleton.1 h]; exact List.mem_cons_self)
theorem Path.back {J : List Jn} {x y : Int} {ns rs : List Int} (h : Path J x y ns rs) : Path J y x ns.reverse rs.reverse := by
  induction h with
  | nil x => exact .nil x
  | @cons x u y q ns rs e p hx ih =>
    rw [List.reverse_cons, List.reverse_cons]
    exact ih.snoc e.symm (by simpa using hx)
theorem WayR.back {n : Int} {J : List Jn} {y x : Int} {rs ss : List Int} (hJ : Tree J) (ho : oneM n J x y = oneM n J y x) (h : WayR n J y x rs) (k : WayR n J x y ss) : ss = rs.reverse := by
  unfold WayR at h k
  rw [ho] at k
  split at h
  · rename_i hb
    rw [if_pos hb] at k
    obtain ⟨ns, hp⟩ := h
    obtain ⟨ms, hq⟩ := k
    exact hJ.one hq hp.back
  · rename_i hb
    rw [if_neg hb] at k
    rw [h, k]
    rfl

theorem Path.lens {J : List Jn} {x y : Int} {ns rs : List Int} (h : Path J x y ns rs) : ns.length = rs.length + 1 := by
  induction h with
  | nil => rfl
  | cons _ _ _ ih => rw [List.length_cons, List.length_cons, ih]
theorem Path.nodup {J : List Jn} {x y : Int} {ns rs : List Int} (h : Path J x y ns rs) : ns.Nodup := by
  induction h with
  | nil => simp
  | cons _ _ hn ih => exact List.nodup_cons.2 ⟨hn, ih⟩
theorem Path.all {J : List Jn} {x y : Int} {ns rs : List Int} (h : Path J x y ns rs) : ∀ z ∈ ns, Conn J x z := by
  induction h with
  | nil x => intro z hz; rw [List.mem_singleton.1 hz]; exact .refl _
  | cons e _ _ ih =>
    intro z hz
    rcases List.mem_cons.1 hz with rfl | hz
    · exact .refl _
    · exact .step e (ih z hz)
theorem Path.inside {n : Int} {J : List Jn} (hF : Fine n J) {x y : Int} {ns rs : List Int} (h : Path J x y ns rs) (hx : 0 ≤ x ∧ x < n) : ∀ z ∈ ns, 0 ≤ z ∧ z < n := by
  induction h with
  | nil x => intro z hz; rw [List.mem_singleton.1 hz]; exact hx
  | cons e _ _ ih =>
    intro z hz
    rcases List.mem_cons.1 hz with rfl | hz
    · exact hx
    · exact ih (e.nodes hF).2 z hz

/-- Whatever holds of a list of different numbers below k is counted at least so often. -/
theorem count_sub (p : Nat → Bool) : ∀ (k : Nat) (l : List Nat), l.Nodup → (∀ x ∈ l, x < k ∧ p x = true) → l.length ≤ (List.range k).countP p
  | 0, [], _, _ => by simp
  | 0, x :: l, _, h => absurd (h x (by simp)).1 (by omega)
  | k + 1, l, hn, h => by
    rw [List.range_succ, List.countP_append, List.countP_singleton]
    by_cases hk : k ∈ l
    · have ih := count_sub p k (l.erase k) (hn.erase _) (fun x hx => by
        have h1 := h x (List.mem_of_mem_erase hx)
        have h2 : x ≠ k := (List.Nodup.mem_erase_iff hn).1 hx |>.1
        exact ⟨by omega, h1.2⟩)
      rw [List.length_erase_of_mem hk] at ih
      rw [if_pos (h k hk).2]
      omega
    · have ih := count_sub p k l hn (fun x hx => by
        have h1 := h x hx
        have h2 : x ≠ k := fun e => hk (e ▸ hx)
        exact ⟨by omega, h1.2⟩)
      omega

theorem count_two (p q : Nat → Bool) (c : Nat) (h : ∀ i, p i = true → q i = true → i = c) : ∀ k, (List.range k).countP p + (List.range k).countP q ≤ k + (if c < k then 1 else 0)
  | 0 => by simp
  | k + 1 => by
    have ih := count_two p q c h k
    rw [List.range_succ, List.countP_append, List.countP_append, List.countP_singleton, List.countP_singleton]
    by_cases hp : p k = true
    · by_cases hq : q k = true
      · have := h k hp hq
        subst this
        rw [if_neg (Nat.lt_irrefl k)] at ih
        rw [if_pos hp, if_pos hq, if_pos (Nat.lt_succ_self k)]
        omega
      · rw [if_pos hp, if_neg hq]
        split at ih
        · rw [if_pos (by omega)]
          omega
        · split <;> omega
    · rw [if_neg hp]
      split at ih
      · have e1 : (if c < k + 1 then 1 else 0) = 1 := if_pos (by omega)
        rw [e1]
        split <;> omega
      · split <;> split <;> omega
open Classical in
/-- A way is no longer than there are joins. -/
theorem way_len {n : Int} {J : List Jn} (hF : Fine n J) {y x : Int} (hy : 0 ≤ y ∧ y < n) {ns rs : List Int} (h : Path J y x ns rs) : rs.length ≤ J.length := by
  obtain ⟨r, hr⟩ := rep_exists (J := J) hy
  obtain ⟨c, hc⟩ := Int.eq_ofNat_of_zero_le hr.1.1
  have h1 := count_sub (fun i => decide (cls J (i : Int) = cls J y)) n.toNat (ns.map Int.toNat) (by
    refine (List.pairwise_map).2 (h.nodup.imp_of_mem ?_)
    intro a b ha hb hne e
    have h1 := h.inside hF hy a ha
    have h2 := h.inside hF hy b hb
    exact hne (by omega)) (fun i hi => by
    obtain ⟨z, hz, rfl⟩ := List.mem_map.1 hi
    have h1 := h.inside hF hy z hz
    refine ⟨by omega, decide_eq_true ?_⟩
    rw [Int.toNat_of_nonneg h1.1]
    exact (cls_conn (h.all z hz)).symm)
  rw [List.length_map, h.lens] at h1
  have h2 := count_two (fun i => decide (RepR n J (i : Int) (i : Int))) (fun i => decide (cls J (i : Int) = cls J y)) c (fun i hp hq => by
    have hp := of_decide_eq_true hp
    have hq := of_decide_eq_true hq
    have := hp.one hr hq
    omega) n.toNat
  rw [if_pos (by have := hr.1.2; omega)] at h2
  have h3 := rep_count J hF
  unfold repCount at h3
  omega
theorem WayR.len {n : Int} {J : List Jn} (hF : Fine n J) {y x : Int} (hy : 0 ≤ y ∧ y < n) {rs : List Int} (h : WayR n J y x rs) : rs.length ≤ J.length := by
  unfold WayR at h
  split at h
  · obtain ⟨ns, hp⟩ := h
    exact way_len hF hy hp
  · rw [h]
    exact Nat.zero_le _
end Go.Proofs.Ythhnlkbnphiaoaa
