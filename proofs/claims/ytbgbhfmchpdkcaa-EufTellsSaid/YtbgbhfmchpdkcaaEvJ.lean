/- The plain side of EufMore. -/
import Derived.Test.YtbgbhfmchpdkcaaEvH
namespace Go.Proofs.Ytbgbhfmchpdkcaa

theorem LitMay.top {T : List Nd} {x : Int} (h : LitMay T x) (hT : T.length ≤ 100000) : 0 ≤ x ∧ x < 200000 := by
  obtain ⟨_, _, _, _, h1, h2⟩ := h.node
  have := h.1
  omega
theorem negG_half {x : Int} (h0 : 0 ≤ x) (h1 : x < 200000) : negG x / 2 = x / 2 ∧ 0 ≤ negG x ∧ negG x < 200000 ∧ negG (negG x) = x := by
  have e := negG_pos h0 (by omega)
  by_cases h : x % 2 = 0
  · rw [if_pos h] at e
    rw [e]
    refine ⟨by omega, by omega, by omega, ?_⟩
    rw [negG_pos (by omega) (by omega), if_neg (by omega)]
    omega
  · rw [if_neg h] at e
    rw [e]
    refine ⟨by omega, by omega, by omega, ?_⟩
    rw [negG_pos (by omega) (by omega), if_pos (by omega)]
    omega
theorem LitMay.neg {T : List Nd} {x : Int} (h : LitMay T x) (hT : T.length ≤ 100000) : LitMay T (negG x) := by
  obtain ⟨h0, h1⟩ := h.top hT
  obtain ⟨e1, e2, _, _⟩ := negG_half h0 h1
  refine ⟨e2, ?_, ?_⟩
  · rw [e1]
    exact h.2.1
  · rw [e1]
    exact h.2.2
theorem MayLits.neg {T : List Nd} {L : List Int} (h : MayLits T L) (hT : T.length ≤ 100000) : MayLits T (L.map negG) := by
  refine ⟨h.1, fun x hx => ?_⟩
  obtain ⟨y, hy, rfl⟩ := List.mem_map.1 hx
  exact (h.2 y hy).neg hT
theorem MayLits.append {T : List Nd} {L M : List Int} (h : MayLits T L) (k : MayLits T M) : MayLits T (L ++ M) :=
  ⟨h.1, fun x hx => (List.mem_append.1 hx).elim (h.2 x) (k.2 x)⟩
theorem MayLits.neg_neg {T : List Nd} {L : List Int} (h : MayLits T L) (hT : T.length ≤ 100000) : (L.map negG).map negG = L := by
  rw [List.map_map]
  conv => rhs; rw [← List.map_id L]
  refine List.map_congr_left fun x hx => ?_
  obtain ⟨h0, h1⟩ := (h.2 x hx).top hT
  exact (negG_half h0 h1).2.2.2
/-- What has a lemma's literals is a lemma. -/
theorem LemL.more {T : List Nd} {L M : List Int} (hT : T.length ≤ 100000) (hl : MayLits T L) (hm : MayLits T M) (h : LemL T L) : LemL T (M ++ L) := by
  refine ⟨fun x hx => ((hm.append hl).2 x hx).1, ?_⟩
  refine h.2.more (fun x hx => ?_) ((hm.append hl).neg hT)
  rw [List.map_append]
  exact List.mem_append.2 (.inr hx)
/-- The negations of a conflict are a lemma; those of none are none. -/
theorem lem_turned {T : List Nd} {L : List Int} (hT : T.length ≤ 100000) (h : BadL T L) : LemL T ((confM T [] L).map negG) := by
  have hb : BadL T (confM T [] L) := confM_bad L [] h
  refine ⟨fun x hx => ((hb.1.neg hT).2 x hx).1, ?_⟩
  rw [hb.1.neg_neg hT]
  exact hb
theorem lem_none {T : List Nd} (h : TabOk T) : ¬ LemL T [] := by
  rintro ⟨_, hb⟩
  exact nil_not_bad h (S := told T []) (fun x hx => (by cases hx.1)) hb.2
end Go.Proofs.Ytbgbhfmchpdkcaa

/- The plain side of EufConflict. -/
namespace Go.Proofs.Ytbgbhfmchpdkcaa

/-- More literals join no fewer. -/
theorem wide_same {T : List Nd} {S S' : Int → Prop} {cs ds : List Int} (hs : ∀ x, S x → S' x) (h : Classes T S cs) (k : Classes T S' ds) (i : Nat) (hi : i < cs.length) :
    0 ≤ cs[i] ∧ cs[i] < ds.length ∧ ∃ (h1 : i < ds.length) (h2 : cs[i].toNat < ds.length), ds[i] = ds[cs[i].toNat] := by
  obtain ⟨⟨h0, hN⟩, hg, _⟩ := h.2 i hi
  have e1 := h.1
  have e2 := k.1
  have l1 : i < ds.length := by omega
  have l2 : cs[i].toNat < ds.length := by omega
  refine ⟨h0, by omega, l1, l2, k.same l1 l2 ?_⟩
  rw [Int.toNat_of_nonneg h0]
  exact hg.more hs
theorem told_more {T : List Nd} {L M : List Int} (x : Int) (h : told T L x) : told T (L ++ M) x := ⟨List.mem_append.2 (.inl h.1), h.2⟩
/-- A conflict is of the literals, is bad, and none of it can be left out. -/
theorem conf_sub {T : List Nd} {L : List Int} : ∀ x ∈ confM T [] L, x ∈ L := fun x hx => by simpa using confM_sub L [] x hx
theorem conf_bad {T : List Nd} {L : List Int} (h : BadL T L) : BadL T (confM T [] L) := confM_bad L [] h
theorem conf_min {T : List Nd} {L : List Int} (h : MayLits T L) (i : Nat) (hi : i < (confM T [] L).length) : ¬ BadL T ((confM T [] L).take i ++ (confM T [] L).drop (i + 1)) := by
  rw [← List.eraseIdx_eq_take_drop_succ]
  exact confM_min L [] h (fun k hk => absurd hk (Nat.not_lt_zero _)) i hi
theorem conf_len {T : List Nd} {L : List Int} : (confM T [] L).length ≤ L.length := by
  have := confM_len (T := T) L []
  simpa using this
theorem conf_within {T : List Nd} {L : List Int} (i : Nat) (hi : i < (confM T [] L).length) : [(confM T [] L)[i]].all (fun x => decide (x ∈ L)) = true := by
  simp only [List.all_cons, List.all_nil, Bool.and_true, decide_eq_true_eq]
  exact conf_sub _ (List.getElem_mem hi)
end Go.Proofs.Ytbgbhfmchpdkcaa
