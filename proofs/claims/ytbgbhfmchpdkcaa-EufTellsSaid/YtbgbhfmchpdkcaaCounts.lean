/- There are as many least ones as nodes less joins. -/
import Derived.Test.YtbgbhfmchpdkcaaClass
namespace Go.Proofs.Ytbgbhfmchpdkcaa
open Go.RowKit

theorem Tree.last {J : List Jn} {j : Jn} (h : Tree (J ++ [j])) : Tree J ∧ ¬ Conn J j.a j.b := by
  generalize hK : J ++ [j] = K at h
  cases h with
  | nil => simp at hK
  | snoc hT hn =>
    obtain ⟨rfl, he⟩ := List.append_inj' hK rfl
    injection he with he
    subst he
    exact ⟨hT, hn⟩
theorem least_of {P : Nat → Prop} (k : Nat) (hk : P k) : ∃ m, P m ∧ ∀ j, P j → m ≤ j := by
  induction k using Nat.strongRecOn with
  | _ k ih =>
    by_cases h : ∃ j, j < k ∧ P j
    · obtain ⟨j, h1, h2⟩ := h
      exact ih j h1 h2
    · exact ⟨k, hk, fun j hj => Nat.le_of_not_lt fun hlt => h ⟨j, hlt, hj⟩⟩
theorem rep_exists {n : Int} {J : List Jn} {a : Int} (ha : 0 ≤ a ∧ a < n) : ∃ r, RepR n J a r := by
  obtain ⟨m, h1, h2⟩ := least_of (P := fun k : Nat => cls J (k : Int) = cls J a) a.toNat (by rw [Int.toNat_of_nonneg ha.1])
  have h3 := h2 a.toNat (by rw [Int.toNat_of_nonneg ha.1])
  refine ⟨m, ⟨by omega, by omega⟩, h1, fun x h4 h5 h6 => ?_⟩
  have h7 := h2 x.toNat (by rw [Int.toNat_of_nonneg h4]; exact h6)
  omega
theorem RepR.one {n : Int} {J : List Jn} {a b r s : Int} (h : RepR n J a r) (k : RepR n J b s) (hc : cls J a = cls J b) : r = s := by
  have h1 := h.2.2 s k.1.1 k.1.2 (by rw [k.2.1, hc])
  have h2 := k.2.2 r h.1.1 h.1.2 (by rw [h.2.1, hc])
  omega
theorem RepR.self {n : Int} {J : List Jn} {a r : Int} (h : RepR n J a r) : RepR n J r r := ⟨h.1, rfl, fun x h1 h2 h3 => h.2.2 x h1 h2 (h3.trans h.2.1)⟩

/-- One join more: the greater of the two least ones is none any more. -/
theorem rep_snoc {n : Int} {J : List Jn} {j : Jn} {ra rb : Int} (hc : ¬ cls J j.a = cls J j.b) (ha : RepR n J j.a ra) (hb : RepR n J j.b rb) (i : Int) :
    RepR n (J ++ [j]) i i ↔ RepR n J i i ∧ i ≠ max ra rb := by
  have hab : ra ≠ rb := fun e => hc (by rw [← ha.2.1, e, hb.2.1])
  constructor
  · rintro ⟨hi, _, hm⟩
    have h1 : RepR n J i i := ⟨hi, rfl, fun x h1 h2 h3 => hm x h1 h2 (by rw [cls_snoc, cls_snoc, h3])⟩
    refine ⟨h1, fun e => ?_⟩
    rcases Int.lt_or_gt_of_ne hab with hlt | hlt
    · have e1 : i = rb := by omega
      have := hm ra ha.1.1 ha.1.2 (by rw [cls_snoc, cls_snoc, e1, ha.2.1, hb.2.1, if_neg hc, if_pos rfl])
      omega
    · have e1 : i = ra := by omega
      have := hm rb hb.1.1 hb.1.2 (by rw [cls_snoc, cls_snoc, e1, ha.2.1, hb.2.1, if_neg hc, if_pos rfl])
      omega
  · rintro ⟨h, hne⟩
    refine ⟨h.1, rfl, fun x h1 h2 h3 => ?_⟩
    rw [cls_snoc, cls_snoc] at h3
    by_cases hx : cls J x = cls J j.b
    · rw [if_pos hx] at h3
      by_cases hi : cls J i = cls J j.b
      · exact h.2.2 x h1 h2 (hx.trans hi.symm)
      · rw [if_neg hi] at h3
        have e1 := h.one ha h3.symm
        have e2 := hb.2.2 x h1 h2 hx
        omega
    · rw [if_neg hx] at h3
      by_cases hi : cls J i = cls J j.b
      · rw [if_pos hi] at h3
        have e1 := h.one hb hi
        have e2 := ha.2.2 x h1 h2 h3
        omega
      · rw [if_neg hi] at h3
        exact h.2.2 x h1 h2 h3

theorem count_less (p q : Nat → Bool) (M : Nat) (hM : p M = true) (h : ∀ i, q i = (p i && decide (i ≠ M))) : ∀ k, (List.range k).countP q + (if M < k then 1 else 0) = (List.range k).countP p
  | 0 => by simp
  | k + 1 => by
    have ih := count_less p q M hM h k
    rw [List.range_succ, List.countP_append, List.countP_append, List.countP_singleton, List.countP_singleton, h k]
    by_cases hk : k = M
    · subst hk
      rw [if_neg (Nat.lt_irrefl k)] at ih
      simp [hM]
      omega
    · rw [← ih]
      have e : decide (k ≠ M) = true := decide_eq_true hk
      rw [e, Bool.and_true]
      have : (M < k + 1) ↔ (M < k) := by omega
      simp only [this]
      omega
open Classical in
/-- How many are the least of their class, below k. -/
noncomputable def repCount (n : Int) (J : List Jn) (k : Nat) : Nat := (List.range k).countP fun (i : Nat) => decide (RepR n J (i : Int) (i : Int))
open Classical in
theorem repCount_succ (n : Int) (J : List Jn) (k : Nat) {r : Int} (h : RepR n J k r) : repCount n J (k + 1) = repCount n J k + if r = k then 1 else 0 := by
  unfold repCount
  rw [List.range_succ, List.countP_append, List.countP_singleton]
  by_cases hr : r = k
  · subst hr
    have : RepR n J k k := h.self
    simp [this]
  · have : ¬ RepR n J k k := fun hk => hr (h.one hk rfl)
    simp [this, hr]
open Classical in
theorem rep_count {n : Int} : ∀ J : List Jn, Fine n J → repCount n J n.toNat + J.length = n.toNat := by
  intro J
  induction J using snoc_ind with
  | h0 =>
    intro _
    unfold repCount
    have : ∀ i ∈ List.range n.toNat, decide (RepR n [] (i : Int) i) = true := fun i hi => decide_eq_true ⟨by have := List.mem_range.1 hi; omega, rfl, fun x _ _ h => by
      have : x = (i : Int) := h
      omega⟩
    rw [List.countP_eq_length.2 this]
    simp
  | h1 J j ih =>
    intro hF
    obtain ⟨hT, hn⟩ := hF.tree.last
    have hj := hF.nodes j (by simp)
    have hF' : Fine n J := ⟨hT, fun x hx => hF.nodes x (List.mem_append_left _ hx)⟩
    have ih := ih hF'
    obtain ⟨ra, ha⟩ := rep_exists (J := J) hj.1
    obtain ⟨rb, hb⟩ := rep_exists (J := J) hj.2
    have hc : ¬ cls J j.a = cls J j.b := fun e => hn (conn_cls J e)
    have hM : RepR n J (max ra rb) (max ra rb) := by
      rcases Int.le_total ra rb with h | h
      · rw [Int.max_eq_right h]
        exact hb.self
      · rw [Int.max_eq_left h]
        exact ha.self
    obtain ⟨M, hMe⟩ := Int.eq_ofNat_of_zero_le hM.1.1
    have := count_less (fun i => decide (RepR n J (i : Int) i)) (fun i => decide (RepR n (J ++ [j]) (i : Int) i)) M (by
      rw [hMe] at hM
      exact decide_eq_true hM) (fun i => by
      rw [Bool.eq_iff_iff]
      simp only [decide_eq_true_eq, Bool.and_eq_true]
      rw [rep_snoc hc ha hb, hMe]
      exact and_congr Iff.rfl ⟨fun h e => h (by rw [e]), fun h e => h (by omega)⟩) n.toNat
    rw [if_pos (by have := hM.1.2; omega)] at this
    unfold repCount at *
    rw [List.length_append, List.length_singleton]
    omega
end Go.Proofs.Ytbgbhfmchpdkcaa
