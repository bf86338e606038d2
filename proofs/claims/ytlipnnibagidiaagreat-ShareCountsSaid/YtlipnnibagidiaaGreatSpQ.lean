/- The plain side of layer 14: each clause names its node. -/
import Derived.Test.YtlipnnibagidiaaGreatSpP
namespace Go.Proofs.YtlipnnibagidiaaGreat

theorem litT_facts {T : List Nd} {n : Nd} (h : n ∈ T) : 0 ≤ litT T n ∧ litT T n / 2 < T.length ∧ ndAt T (litT T n / 2) = n := by
  have hl := List.idxOf_lt_length_iff.2 h
  rw [litT_half.1]
  refine ⟨by unfold litT; omega, by omega, ?_⟩
  rw [ndAt_nat hl]
  simp
theorem at_of {T : List Nd} (h : Well T) {id : Int} (h0 : 0 ≤ id) (h1 : id < T.length) : Stands (ndAt T id) id := by
  obtain ⟨k, rfl⟩ : ∃ n : Nat, id = n := ⟨id.toNat, by omega⟩
  rw [ndAt_nat (by omega)]
  exact h.core.ok.st k _ (List.getElem?_eq_getElem (by omega))
theorem srt_and {T : List Nd} (h : Well T) {id : Int} (h0 : 0 ≤ id) (h1 : id < T.length) (ho : (ndAt T id).op = 2 ∨ (ndAt T id).op = 3) : (ndAt T id).sort = 0 ∧ (ndAt T (ndAt T id).a0).sort = 0 ∧ (ndAt T (ndAt T id).a1).sort = 0 := by
  have hr := h.srt _ (ndAt_mem h0 h1) (by omega)
  rcases ho with ho | ho
  all_goals
    rw [ho] at hr
    unfold opSort at hr
    simp at hr
    exact ⟨hr.2.symm, hr.1.1, hr.1.2⟩
theorem srt_eq {T : List Nd} (h : Well T) {id : Int} (h0 : 0 ≤ id) (h1 : id < T.length) (ho : (ndAt T id).op = 6) : (ndAt T id).sort = 0 ∧ (ndAt T (ndAt T id).a0).sort = (ndAt T (ndAt T id).a1).sort := by
  have hr := h.srt _ (ndAt_mem h0 h1) (by omega)
  rw [ho] at hr
  unfold opSort at hr
  simp at hr
  exact ⟨hr.2.symm, hr.1⟩
theorem srt_ite {T : List Nd} (h : Well T) {id : Int} (h0 : 0 ≤ id) (h1 : id < T.length) (ho : (ndAt T id).op = 7) : (ndAt T (ndAt T id).a0).sort = 0 ∧ (ndAt T (ndAt T id).a1).sort = (ndAt T id).sort ∧ (ndAt T (ndAt T id).a2).sort = (ndAt T id).sort := by
  have hr := h.srt _ (ndAt_mem h0 h1) (by omega)
  rw [ho] at hr
  unfold opSort at hr
  simp at hr
  exact ⟨hr.1.1, hr.2, by rw [← hr.1.2]; exact hr.2⟩
/-- A literal's node is a place; it is the node, or has it for an argument. -/
def InT (T : List Nd) (x : Int) : Prop := 0 ≤ x ∧ x / 2 < T.length
def NamesL (T : List Nd) (id x : Int) : Prop := x / 2 = id ∨ (ndAt T (x / 2)).a0 = id ∨ (ndAt T (x / 2)).a1 = id
theorem InT.neg {T : List Nd} {x : Int} (h : InT T x) : InT T (negL x) := by
  obtain ⟨h1, h2, _⟩ := negL_facts h.1
  exact ⟨h1, by rw [h2]; exact h.2⟩
theorem NamesL.neg {T : List Nd} {id x : Int} (h0 : 0 ≤ x) (h : NamesL T id x) : NamesL T id (negL x) := by
  unfold NamesL
  rw [(negL_facts h0).2.1]
  exact h
theorem litP_in {T : List Nd} (h : Well T) {id : Int} (h0 : 0 ≤ id) (h1 : id < T.length) (hs : (ndAt T id).sort = 0) : InT T (litP T id) := ⟨(litP_facts h h0 h1 hs).1, (litP_facts h h0 h1 hs).2.1⟩
/-- A clause names its node. -/
structure NamesC (T : List Nd) (id : Int) (c : List Int) : Prop where
  in_ : ∀ x ∈ c, InT T x
  names : ∃ x ∈ c, NamesL T id x
  len : c.length ≤ 3
theorem clausesP_names {T : List Nd} (h : Well T) (hI : IteOk T) {id : Int} (h0 : 0 ≤ id) (h1 : id < T.length) : ∀ c ∈ clausesP T id, NamesC T id c := by
  intro c hc
  have hst := at_of h h0 h1
  have lit2 : (ndAt T id).op ≠ 1 → (ndAt T id).sort = 0 → litP T id / 2 = id ∧ InT T (litP T id) := fun ho hs => by
    obtain ⟨g1, g2, _, _, g5, _⟩ := litP_facts h h0 h1 hs
    rw [g5 ho]
    exact ⟨by omega, by omega, by omega⟩
  unfold clausesP at hc
  dsimp only at hc
  split at hc
  · obtain rfl := List.mem_singleton.1 hc
    have e : 2 * id / 2 = id := by omega
    exact ⟨fun x hx => by obtain rfl := List.mem_singleton.1 hx; exact ⟨by omega, by rw [e]; exact h1⟩, ⟨_, by simp, .inl e⟩, by simp⟩
  split at hc
  · rename_i ho
    obtain ⟨s0, s1, s2⟩ := srt_and h h0 h1 (.inl ho)
    obtain ⟨⟨p0, p1⟩, q0, q1⟩ := hst.two (.inr (.inr (.inl ho)))
    obtain ⟨t1, t2⟩ := lit2 (by omega) s0
    have ia := litP_in h p0 (by omega) s1
    have ib := litP_in h q0 (by omega) s2
    have nt : NamesL T id (litP T id) := .inl t1
    generalize litP T id = t at *
    generalize litP T (ndAt T id).a0 = a at *
    generalize litP T (ndAt T id).a1 = b at *
    simp only [List.mem_cons, List.not_mem_nil, or_false] at hc
    rcases hc with rfl | rfl | rfl
    · exact ⟨fun x hx => by simp at hx; rcases hx with rfl | rfl; exact t2.neg; exact ia, ⟨negL t, by simp, nt.neg t2.1⟩, by simp⟩
    · exact ⟨fun x hx => by simp at hx; rcases hx with rfl | rfl; exact t2.neg; exact ib, ⟨negL t, by simp, nt.neg t2.1⟩, by simp⟩
    · exact ⟨fun x hx => by simp at hx; rcases hx with rfl | rfl | rfl; exact t2; exact ia.neg; exact ib.neg, ⟨t, by simp, nt⟩, by simp⟩
  split at hc
  · rename_i ho
    obtain ⟨s0, s1, s2⟩ := srt_and h h0 h1 (.inr ho)
    obtain ⟨⟨p0, p1⟩, q0, q1⟩ := hst.two (.inr (.inr (.inr ho)))
    obtain ⟨t1, t2⟩ := lit2 (by omega) s0
    have ia := litP_in h p0 (by omega) s1
    have ib := litP_in h q0 (by omega) s2
    have nt : NamesL T id (litP T id) := .inl t1
    generalize litP T id = t at *
    generalize litP T (ndAt T id).a0 = a at *
    generalize litP T (ndAt T id).a1 = b at *
    simp only [List.mem_cons, List.not_mem_nil, or_false] at hc
    rcases hc with rfl | rfl | rfl
    · exact ⟨fun x hx => by simp at hx; rcases hx with rfl | rfl; exact t2; exact ia.neg, ⟨t, by simp, nt⟩, by simp⟩
    · exact ⟨fun x hx => by simp at hx; rcases hx with rfl | rfl; exact t2; exact ib.neg, ⟨t, by simp, nt⟩, by simp⟩
    · exact ⟨fun x hx => by simp at hx; rcases hx with rfl | rfl | rfl; exact t2.neg; exact ia; exact ib, ⟨negL t, by simp, nt.neg t2.1⟩, by simp⟩
  split at hc
  · rename_i ho
    split at hc
    rotate_left
    · cases hc
    rename_i hs
    obtain ⟨s0, s1⟩ := srt_eq h h0 h1 ho
    obtain ⟨⟨p0, p1⟩, q0, q1⟩ := hst.two (.inl ho)
    obtain ⟨t1, t2⟩ := lit2 (by omega) s0
    have ia := litP_in h p0 (by omega) hs
    have ib := litP_in h q0 (by omega) (by rw [← s1]; exact hs)
    have nt : NamesL T id (litP T id) := .inl t1
    generalize litP T id = t at *
    generalize litP T (ndAt T id).a0 = a at *
    generalize litP T (ndAt T id).a1 = b at *
    simp only [List.mem_cons, List.not_mem_nil, or_false] at hc
    rcases hc with rfl | rfl | rfl | rfl
    · exact ⟨fun x hx => by simp at hx; rcases hx with rfl | rfl | rfl; exact t2.neg; exact ia.neg; exact ib, ⟨negL t, by simp, nt.neg t2.1⟩, by simp⟩
    · exact ⟨fun x hx => by simp at hx; rcases hx with rfl | rfl | rfl; exact t2.neg; exact ia; exact ib.neg, ⟨negL t, by simp, nt.neg t2.1⟩, by simp⟩
    · exact ⟨fun x hx => by simp at hx; rcases hx with rfl | rfl | rfl; exact t2; exact ia; exact ib, ⟨t, by simp, nt⟩, by simp⟩
    · exact ⟨fun x hx => by simp at hx; rcases hx with rfl | rfl | rfl; exact t2; exact ia.neg; exact ib.neg, ⟨t, by simp, nt⟩, by simp⟩
  split at hc
  · rename_i ho
    obtain ⟨s0, s1, s2⟩ := srt_ite h h0 h1 ho
    have hl := hst.len_of (lo := 3) (by rw [ho]; decide)
    have p0 : 0 ≤ (ndAt T id).a0 ∧ (ndAt T id).a0 < id := hst.arg_lt 0 (by omega) (by rw [hl]; decide)
    have p1 : 0 ≤ (ndAt T id).a1 ∧ (ndAt T id).a1 < id := hst.arg_lt 1 (by omega) (by rw [hl]; decide)
    have p2 : 0 ≤ (ndAt T id).a2 ∧ (ndAt T id).a2 < id := hst.arg_lt 2 (by omega) (by rw [hl]; decide)
    have ia := litP_in h p0.1 (by omega) s0
    split at hc
    · rename_i hs
      obtain ⟨t1, t2⟩ := lit2 (by omega) hs
      have ib := litP_in h p1.1 (by omega) (by rw [s1, hs])
      have ic := litP_in h p2.1 (by omega) (by rw [s2, hs])
      have nt : NamesL T id (litP T id) := .inl t1
      generalize litP T id = t at *
      generalize litP T (ndAt T id).a0 = a at *
      generalize litP T (ndAt T id).a1 = b at *
      generalize litP T (ndAt T id).a2 = d at *
      simp only [List.mem_cons, List.not_mem_nil, or_false] at hc
      rcases hc with rfl | rfl | rfl | rfl
      · exact ⟨fun x hx => by simp at hx; rcases hx with rfl | rfl | rfl; exact t2.neg; exact ia.neg; exact ib, ⟨negL t, by simp, nt.neg t2.1⟩, by simp⟩
      · exact ⟨fun x hx => by simp at hx; rcases hx with rfl | rfl | rfl; exact t2.neg; exact ia; exact ic, ⟨negL t, by simp, nt.neg t2.1⟩, by simp⟩
      · exact ⟨fun x hx => by simp at hx; rcases hx with rfl | rfl | rfl; exact t2; exact ia.neg; exact ib.neg, ⟨t, by simp, nt⟩, by simp⟩
      · exact ⟨fun x hx => by simp at hx; rcases hx with rfl | rfl | rfl; exact t2; exact ia; exact ic.neg, ⟨t, by simp, nt⟩, by simp⟩
    · rename_i hs
      obtain ⟨idN, rfl⟩ : ∃ n : Nat, id = n := ⟨id.toNat, by omega⟩
      have hget : T[idN]? = some (ndAt T (idN : Int)) := by rw [ndAt_nat (by omega)]; exact List.getElem?_eq_getElem (by omega)
      obtain ⟨k1, k2⟩ := hI idN _ hget ho
      have bi := fun a ha => base_ne h (i := (idN : Int)) (a := a) ⟨h0, h1⟩ ho ha
      split at hc
      · rename_i hs1
        obtain ⟨m1, m2, m3⟩ := k1.1 hs1
        obtain ⟨m4, m5, m6⟩ := k2.1 hs1
        have f : ∀ b : Int, 0 ≤ b ∧ b < (idN : Int) → diffNd (idN : Int) (baseT T b).1 (difN T idN b) ∈ T → diffNd (baseT T b).1 (idN : Int) (difN T b idN) ∈ T → (InT T (diffP T idN b) ∧ NamesL T idN (diffP T idN b)) ∧ InT T (diffP T b idN) ∧ NamesL T idN (diffP T b idN) := fun b hb g1 g2 => by
          obtain ⟨b1, _⟩ := bi b hb
          have u1 := litT_facts g1
          have u2 := litT_facts g2
          unfold diffP
          rw [b1]
          exact ⟨⟨⟨u1.1, u1.2.1⟩, .inr (.inl (by rw [u1.2.2]; rfl))⟩, ⟨u2.1, u2.2.1⟩, .inr (.inr (by rw [u2.2.2]; rfl))⟩
        obtain ⟨⟨f1, f2⟩, f3, f4⟩ := f _ p1 m2 m3
        obtain ⟨⟨f5, f6⟩, f7, f8⟩ := f _ p2 m5 m6
        generalize litP T (ndAt T (idN : Int)).a0 = a at *
        simp only [List.mem_cons, List.not_mem_nil, or_false] at hc
        rcases hc with rfl | rfl | rfl | rfl
        · exact ⟨fun x hx => by simp at hx; rcases hx with rfl | rfl; exact ia.neg; exact f1, ⟨_, by simp, f2⟩, by simp⟩
        · exact ⟨fun x hx => by simp at hx; rcases hx with rfl | rfl; exact ia.neg; exact f3, ⟨_, by simp, f4⟩, by simp⟩
        · exact ⟨fun x hx => by simp at hx; rcases hx with rfl | rfl; exact ia; exact f5, ⟨_, by simp, f6⟩, by simp⟩
        · exact ⟨fun x hx => by simp at hx; rcases hx with rfl | rfl; exact ia; exact f7, ⟨_, by simp, f8⟩, by simp⟩
      · rename_i hs1
        have f : ∀ b : Int, 0 ≤ b ∧ b < (idN : Int) → eqNd (min (idN : Int) b) (max (idN : Int) b) ∈ T → InT T (sameP T idN b) ∧ NamesL T idN (sameP T idN b) := fun b hb g1 => by
          have u1 := litT_facts g1
          unfold sameP
          refine ⟨⟨u1.1, u1.2.1⟩, .inr (.inr ?_)⟩
          rw [u1.2.2]
          show max (idN : Int) b = idN
          omega
        obtain ⟨f1, f2⟩ := f _ p1 (k1.2 hs hs1)
        obtain ⟨f5, f6⟩ := f _ p2 (k2.2 hs hs1)
        generalize litP T (ndAt T (idN : Int)).a0 = a at *
        simp only [List.mem_cons, List.not_mem_nil, or_false] at hc
        rcases hc with rfl | rfl
        · exact ⟨fun x hx => by simp at hx; rcases hx with rfl | rfl; exact ia.neg; exact f1, ⟨_, by simp, f2⟩, by simp⟩
        · exact ⟨fun x hx => by simp at hx; rcases hx with rfl | rfl; exact ia; exact f5, ⟨_, by simp, f6⟩, by simp⟩
  · cases hc
/-- .. as the clauses are made. -/
theorem shapeP_names {T : List Nd} (h : Well T) (hI : IteOk T) {id : Int} (h0 : 0 ≤ id) (h1 : id < T.length) : ∀ c ∈ shapeP T id, NamesC T id c ∧ Ord c ∧ c ≠ [] := by
  intro c hc
  obtain ⟨d, hd, rfl⟩ := List.mem_map.1 hc
  obtain ⟨g1, ⟨x, hx, g2⟩, g3⟩ := clausesP_names h hI h0 h1 d hd
  have hx0 := (g1 x hx).1
  exact ⟨⟨fun y hy => g1 y ((mem_make d y).1 hy).1, ⟨x, (mem_make d x).2 ⟨hx, hx0⟩, g2⟩, Nat.le_trans (spmake_len d) g3⟩, make_ord d, make_ne hx hx0⟩
end Go.Proofs.YtlipnnibagidiaaGreat
