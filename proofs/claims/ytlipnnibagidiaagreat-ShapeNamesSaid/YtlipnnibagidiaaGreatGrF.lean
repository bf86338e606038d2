/- The plain side of layer 14: each clause names its node. -/
import Derived.Test.YtlipnnibagidiaaGreatWrB
import Derived.Test.YtlipnnibagidiaaGreatWrN
import Derived.Test.YtlipnnibagidiaaGreatRdB
namespace Go.Proofs.YtlipnnibagidiaaGreat

theorem litT_facts {T : List Nd} {n : Nd} (h : n ∈ T) : 0 ≤ litT T n ∧ litT T n / 2 < T.length ∧ ndAt T (litT T n / 2) = n := by
  have hl := List.idxOf_lt_length_iff.2 h
  rw [litT_half.1]
  refine ⟨by unfold litT; omega, by omega, ?_⟩
  rw [ndAt_nat hl]
  simp
theorem at_of {T : List Nd} (h : Well T) {id : Int} (h0 : 0 ≤ id) (h1 : id < T.length) : Stands (ndAt T id) id := by
  obtain ⟨k, rfl⟩ : ∃ n : Nat, id = n := ⟨id.toNat, by omega⟩
  rw [ndAt_nat (by omega)]
  exact h.core.ok.st k _ (List.getElem?_eq_getElem (by omega))
theorem srt_and {T : List Nd} (h : Well T) {id : Int} (h0 : 0 ≤ id) (h1 : id < T.length) (ho : (ndAt T id).op = 2 ∨ (ndAt T id).op = 3) : (ndAt T id).sort = 0 ∧ (ndAt T (ndAt T id).a0).sort = 0 ∧ (ndAt T (ndAt T id).a1).sort = 0 := by
  have hr := h.srt _ (ndAt_mem h0 h1) (by omega)
  rcases ho with ho | ho
  all_goals
    rw [ho] at hr
    unfold opSort at hr
    simp at hr
    exact ⟨hr.2.symm, hr.1.1, hr.1.2⟩
theorem srt_eq {T : List Nd} (h : Well T) {id : Int} (h0 : 0 ≤ id) (h1 : id < T.length) (ho : (ndAt T id).op = 6) : (ndAt T id).sort = 0 ∧ (ndAt T (ndAt T id).a0).sort = (ndAt T (ndAt T id).a1).sort := by
  have hr := h.srt _ (ndAt_mem h0 h1) (by omega)
  rw [ho] at hr
  unfold opSort at hr
  simp at hr
  exact ⟨hr.2.symm, hr.1⟩
theorem srt_ite {T : List Nd} (h : Well T) {id : Int} (h0 : 0 ≤ id) (h1 : id < T.length) (ho : (ndAt T id).op = 7) : (ndAt T (ndAt T id).a0).sort = 0 ∧ (ndAt T (ndAt T id).a1).sort = (ndAt T id).sort ∧ (ndAt T (ndAt T id).a2).sort = (ndAt T id).sort := by
  have hr := h.srt _ (ndAt_mem h0 h1) (by omega)
  rw [ho] at hr
  unfold opSort at hr
  simp at hr
  exact ⟨hr.1.1, hr.2, by rw [← hr.1.2]; exact hr.2⟩
/-- A literal's node is a place; it is the node, or has it for an argument. -/
def InT (T : List Nd) (x : Int) : Prop := 0 ≤ x ∧ x / 2 < T.length
def NamesL (T : List Nd) (id x : Int) : Prop := x / 2 = id ∨ (ndAt T (x / 2)).a0 = id ∨ (ndAt T (x / 2)).a1 = id
theorem InT.neg {T : List Nd} {x : Int} (h : InT T x) : InT T (negL x) := by
  obtain ⟨h1, h2, _⟩ := negL_facts h.1
  exact ⟨h1, by rw [h2]; exact h.2⟩
theorem NamesL.neg {T : List Nd} {id x : Int} (h0 : 0 ≤ x) (h : NamesL T id x) : NamesL T id (negL x) := by
  unfold NamesL
  rw [(negL_facts h0).2.1]
  exact h
theorem litP_in {T : List Nd} (h : Well T) {id : Int} (h0 : 0 ≤ id) (h1 : id < T.length) (hs : (ndAt T id).sort = 0) : InT T (litP T id) := ⟨(litP_facts h h0 h1 hs).1, (litP_facts h h0 h1 hs).2.1⟩
/-- A clause names its node. -/
structure NamesC (T : List Nd) (id : Int) (c : List Int) : Prop where
  in_ : ∀ x ∈ c, InT T x
  names : ∃ x ∈ c, NamesL T id x
  len : c.length ≤ 3
theorem clausesP_names {T : List Nd} (h : Well T) (hI : IteOk T) {id : Int} (h0 : 0 ≤ id) (h1 : id < T.length) : ∀ c ∈ clausesP T id, NamesC T id c := by
  intro c hc
  have hst := at_of h h0 h1
  have lit2 : (ndAt T id).op ≠ 1 → (ndAt T id).sort = 0 → litP T id / 2 = id ∧ InT T (litP T id) := fun ho hs => by
    obtain ⟨g1, g2, _, _, g5, _⟩ := litP_facts h h0 h1 hs
    rw [g5 ho]
    exact ⟨by omega, by omega, by omega⟩
  unfold clausesP at hc
  dsimp only at hc
  split at hc
  · obtain rfl := List.mem_singleton.1 hc
    have e : 2 * id / 2 = id := by omega
    exact ⟨fun x hx => by obtain rfl := List.mem_singleton.1 hx; exact ⟨by omega, by rw [e]; exact h1⟩, ⟨_, by simp, .inl e⟩, by simp⟩
  split at hc
  · rename_i ho
    obtain ⟨s0, s1, s2⟩ := srt_and h h0 h1 (.inl ho)
    obtain ⟨⟨p0, p1⟩, q0, q1⟩ := hst.two (.inr (.inr (.inl ho)))
    obtain ⟨t1, t2⟩ := lit2 (by omega) s0
    have ia := litP_in h p0 (by omega) s1
    have ib := litP_in h q0 (by omega) s2
    have nt : NamesL T id (litP T id) := .inl t1
    generalize litP T id = t at *
    generalize litP T (ndAt T id).a0 = a at *
    generalize litP T (ndAt T id).a1 = b at *
    simp only [List.mem_cons, List.not_mem_nil, or_false] at hc
    rcases hc with rfl | rfl | rfl
    · exact ⟨fun x hx => by simp at hx; rcases hx with rfl | rfl; exact t2.neg; exact ia, ⟨negL t, by simp, nt.neg t2.1⟩, by simp⟩
    · exact ⟨fun x hx => by simp at hx; rcases hx with rfl | rfl; exact t2.neg; exact ib, ⟨negL t, by simp, nt.neg t2.1⟩, by simp⟩
    · exact ⟨fun x hx => by simp at hx; rcases hx with rfl | rfl | rfl; exact t2; exact ia.neg; exact ib.neg, ⟨t, by simp, nt⟩, by simp⟩
  split at hc
  · rename_i ho
    obtain ⟨s0, s1, s2⟩ := srt_and h h0 h1 (.inr ho)
    obtain ⟨⟨p0, p1⟩, q0, q1⟩ := hst.two (.inr (.inr (.inr ho)))
    obtain ⟨t1, t2⟩ := lit2 (by omega) s0
    have ia := litP_in h p0 (by omega) s1
    have ib := litP_in h q0 (by omega) s2
    have nt : NamesL T id (litP T id) := .inl t1
    generalize litP T id = t at *
    generalize litP T (ndAt T id).a0 = a at *
    generalize litP T (ndAt T id).a1 = b at *
    simp only [List.mem_cons, List.not_mem_nil, or_false] at hc
    rcases hc with rfl | rfl | rfl
    · exact ⟨fun x hx => by simp at hx; rcases hx with rfl | rfl; exact t2; exact ia.neg, ⟨t, by simp, nt⟩, by simp⟩
    · exact ⟨fun x hx => by simp at hx; rcases hx with rfl | rfl; exact t2; exact ib.neg, ⟨t, by simp, nt⟩, by simp⟩
    · exact ⟨fun x hx => by simp at hx; rcases hx with rfl | rfl | rfl; exact t2.neg; exact ia; exact ib, ⟨negL t, by simp, nt.neg t2.1⟩, by simp⟩
  split at hc
  · rename_i ho
    split at hc
    rotate_left
    · cases hc
    rename_i hs
    obtain ⟨s0, s1⟩ := srt_eq h h0 h1 ho
    obtain ⟨⟨p0, p1⟩, q0, q1⟩ := hst.two (.inl ho)
    obtain ⟨t1, t2⟩ := lit2 (by omega) s0
    have ia := litP_in h p0 (by omega) hs
    have ib := litP_in h q0 (by omega) (by rw [← s1]; exact hs)
    have nt : NamesL T id (litP T id) := .inl t1
    generalize litP T id = t at *
    generalize litP T (ndAt T id).a0 = a at *
    generalize litP T (ndAt T id).a1 = b at *
    simp only [List.mem_cons, List.not_mem_nil, or_false] at hc
    rcases hc with rfl | rfl | rfl | rfl
    · exact ⟨fun x hx => by simp at hx; rcases hx with rfl | rfl | rfl; exact t2.neg; exact ia.neg; exact ib, ⟨negL t, by simp, nt.neg t2.1⟩, by simp⟩
    · exact ⟨fun x hx => by simp at hx; rcases hx with rfl | rfl | rfl; exact t2.neg; exact ia; exact ib.neg, ⟨negL t, by simp, nt.neg t2.1⟩, by simp⟩
    · exact ⟨fun x hx => by simp at hx; rcases hx with rfl | rfl | rfl; exact t2; exact ia; exact ib, ⟨t, by simp, nt⟩, by simp⟩
    · exact ⟨fun x hx => by simp at hx; rcases hx with rfl | rfl | rfl; exact t2; exact ia.neg; exact ib.neg, ⟨t, by simp, nt⟩, by simp⟩
  split at hc
  · rename_i ho
    obtain ⟨s0, s1, s2⟩ := srt_ite h h0 h1 ho
    have hl := hst.len_of (lo := 3) (by rw [ho]; decide)
    have p0 : 0 ≤ (ndAt T id).a0 ∧ (ndAt T id).a0 < id := hst.arg_lt 0 (by omega) (by rw [hl]; decide)
    have p1 : 0 ≤ (ndAt T id).a1 ∧ (ndAt T id).a1 < id := hst.arg_lt 1 (by omega) (by rw [hl]; decide)
    have p2 : 0 ≤ (ndAt T id).a2 ∧ (ndAt T id).a2 < id := hst.arg_lt 2 (by omega) (by rw [hl]; decide)
    have ia := litP_in h p0.1 (by omega) s0
    split at hc
    · rename_i hs
      obtain ⟨t1, t2⟩ := lit2 (by omega) hs
      have ib := litP_in h p1.1 (by omega) (by rw [s1, hs])
      have ic := litP_in h p2.1 (by omega) (by rw [s2, hs])
      have nt : NamesL T id (litP T id) := .inl t1
      generalize litP T id = t at *
      generalize litP T (ndAt T id).a0 = a at *
      generalize litP T (ndAt T id).a1 = b at *
      generalize litP T (ndAt T id).a2 = d at *
      simp only [List.mem_cons, List.not_mem_nil, or_false] at hc
      rcases hc with rfl | rfl | rfl | rfl
      · exact ⟨fun x hx => by simp at hx; rcases hx with rfl | rfl | rfl; exact t2.neg; exact ia.neg; exact ib, ⟨negL t, by simp, nt.neg t2.1⟩, by simp⟩
      · exact ⟨fun x hx => by simp at hx; rcases hx with rfl | rfl | rfl; exact t2.neg; exact ia; exact ic, ⟨negL t, by simp, nt.neg t2.1⟩, by simp⟩
      · exact ⟨fun x hx => by simp at hx; rcases hx with rfl | rfl | rfl; exact t2; exact ia.neg; exact ib.neg, ⟨t, by simp, nt⟩, by simp⟩
      · exact ⟨fun x hx => by simp at hx; rcases hx with rfl | rfl | rfl; exact t2; exact ia; exact ic.neg, ⟨t, by simp, nt⟩, by simp⟩
    · rename_i hs
      obtain ⟨idN, rfl⟩ : ∃ n : Nat, id = n := ⟨id.toNat, by omega⟩
      have hget : T[idN]? = some (ndAt T (idN : Int)) := by rw [ndAt_nat (by omega)]; exact List.getElem?_eq_getElem (by omega)
      obtain ⟨k1, k2⟩ := hI idN _ hget ho
      have bi := fun a ha => base_ne h (i := (idN : Int)) (a := a) ⟨h0, h1⟩ ho ha
      split at hc
      · rename_i hs1
        obtain ⟨m1, m2, m3⟩ := k1.1 hs1
        obtain ⟨m4, m5, m6⟩ := k2.1 hs1
        have f : ∀ b : Int, 0 ≤ b ∧ b < (idN : Int) → diffNd (idN : Int) (baseT T b).1 (difN T idN b) ∈ T → diffNd (baseT T b).1 (idN : Int) (difN T b idN) ∈ T → (InT T (diffP T idN b) ∧ NamesL T idN (diffP T idN b)) ∧ InT T (diffP T b idN) ∧ NamesL T idN (diffP T b idN) := fun b hb g1 g2 => by
          obtain ⟨b1, _⟩ := bi b hb
          have u1 := litT_facts g1
          have u2 := litT_facts g2
          unfold diffP
          rw [b1]
          exact ⟨⟨⟨u1.1, u1.2.1⟩, .inr (.inl (by rw [u1.2.2]; rfl))⟩, ⟨u2.1, u2.2.1⟩, .inr (.inr (by rw [u2.2.2]; rfl))⟩
        obtain ⟨⟨f1, f2⟩, f3, f4⟩ := f _ p1 m2 m3
        obtain ⟨⟨f5, f6⟩, f7, f8⟩ := f _ p2 m5 m6
        generalize litP T (ndAt T (idN : Int)).a0 = a at *
        simp only [List.mem_cons, List.not_mem_nil, or_false] at hc
        rcases hc with rfl | rfl | rfl | rfl
        · exact ⟨fun x hx => by simp at hx; rcases hx with rfl | rfl; exact ia.neg; exact f1, ⟨_, by simp, f2⟩, by simp⟩
        · exact ⟨fun x hx => by simp at hx; rcases hx with rfl | rfl; exact ia.neg; exact f3, ⟨_, by simp, f4⟩, by simp⟩
        · exact ⟨fun x hx => by simp at hx; rcases hx with rfl | rfl; exact ia; exact f5, ⟨_, by simp, f6⟩, by simp⟩
        · exact ⟨fun x hx => by simp at hx; rcases hx with rfl | rfl; exact ia; exact f7, ⟨_, by simp, f8⟩, by simp⟩
      · rename_i hs1
        have f : ∀ b : Int, 0 ≤ b ∧ b < (idN : Int) → eqNd (min (idN : Int) b) (max (idN : Int) b) ∈ T → InT T (sameP T idN b) ∧ NamesL T idN (sameP T idN b) := fun b hb g1 => by
          have u1 := litT_facts g1
          unfold sameP
          refine ⟨⟨u1.1, u1.2.1⟩, .inr (.inr ?_)⟩
          rw [u1.2.2]
          show max (idN : Int) b = idN
          omega
        obtain ⟨f1, f2⟩ := f _ p1 (k1.2 hs hs1)
        obtain ⟨f5, f6⟩ := f _ p2 (k2.2 hs hs1)
        generalize litP T (ndAt T (idN : Int)).a0 = a at *
        simp only [List.mem_cons, List.not_mem_nil, or_false] at hc
        rcases hc with rfl | rfl
        · exact ⟨fun x hx => by simp at hx; rcases hx with rfl | rfl; exact ia.neg; exact f1, ⟨_, by simp, f2⟩, by simp⟩
        · exact ⟨fun x hx => by simp at hx; rcases hx with rfl | rfl; exact ia; exact f5, ⟨_, by simp, f6⟩, by simp⟩
  · cases hc
/-- .. as the clauses are made. -/
theorem shapeP_names {T : List Nd} (h : Well T) (hI : IteOk T) {id : Int} (h0 : 0 ≤ id) (h1 : id < T.length) : ∀ c ∈ shapeP T id, NamesC T id c ∧ Ord c ∧ c ≠ [] := by
  intro c hc
  obtain ⟨d, hd, rfl⟩ := List.mem_map.1 hc
  obtain ⟨g1, ⟨x, hx, g2⟩, g3⟩ := clausesP_names h hI h0 h1 d hd
  have hx0 := (g1 x hx).1
  exact ⟨⟨fun y hy => g1 y ((mem_make d y).1 hy).1, ⟨x, (mem_make d x).2 ⟨hx, hx0⟩, g2⟩, Nat.le_trans (spmake_len d) g3⟩, make_ord d, make_ne hx hx0⟩
end Go.Proofs.YtlipnnibagidiaaGreat

/- shape.writer.write writes the node's clauses. -/
namespace Go.Proofs.YtlipnnibagidiaaGreat
open Go.RowKit Go.Lib

theorem Tab.wf {W : World} {A : Option Addr} {T : List Nd} (h : Tab W A T) {n : Nd} (hn : n ∈ T) : NdWf n := by
  obtain ⟨i, hi, rfl⟩ := List.getElem_of_mem hn
  obtain ⟨b, off, _, _, hc⟩ := h.at_.resolve_left (by omega)
  exact (hc i hi).wf
theorem fit_diff {T : List Nd} (h : Well T) {x y d : Int} (hn : diffNd x y d ∈ T) : x ≠ y := by
  have := h.core.fit _ hn
  unfold fitB diffNd at this
  simp at this
  exact this.1.1
theorem difW_diff {T : List Nd} (hw : Well T) (hT : T.length ≤ 1000000) {r c k : Nat} {A : Option Addr} {bad : Bool} (hc : T.length ≤ c) {a b : Int} (ha : Shd T a) (hb : Shd T b) (hm : mayI (difN T a b) = true) (hn : diffNd (baseT T a).1 (baseT T b).1 (difN T a b) ∈ T) : DifW 131 r c k A T bad a b (diffP T a b) := fun _ _ _ h =>
  wdiff_ok hc h (ordB_iff.2 hw.core.ord) a b _ _ _ ⟨ha.lo, by have := ha.hi; omega⟩ ⟨hb.lo, by have := hb.hi; omega⟩ (by rw [diffT_shd hw.core hw.sum ha hb, if_pos hm]) (fit_diff hw hn) (h.tab.wf hn) hn
theorem difW_same {T : List Nd} {r c k : Nat} {A : Option Addr} {bad : Bool} {a b : Int} (hn : eqNd (min a b) (max a b) ∈ T) : DifW 132 r c k A T bad a b (sameP T a b) := fun _ _ _ h => wsame_ok h a b (h.tab.wf hn) hn
theorem difN_neg {T : List Nd} {a b : Int} (h : mayI (difN T a b) = true) : mayI (difN T b a) = true := by
  rw [mayI_iff] at h ⊢
  unfold difN at h ⊢
  omega
set_option maxHeartbeats 1000000 in
theorem wwrite_ok {w : World} {r c k : Nat} {A : Option Addr} {T : List Nd} {ov : Value} {rows : List (Option Addr × Nat × List Int)} {bad : Bool} (hc : T.length ≤ c) (h : WrS w r A T c k ov rows bad) (hr9 : rows.length ≤ 890) (hw : Well T) (hI : IteOk T) (hT : T.length ≤ 1000000) (hk : k < T.length) :
    Calls Tryz.prog 46 #[.pointer (some ⟨r, 0, none⟩)] w fun e w' => e = .returned (.tuple #[]) ∧ WrP r c k A T rows bad w w' (clausesP T k) := by
  have h0 : (0 : Int) ≤ (k : Int) := by omega
  have h1 : (k : Int) < (T.length : Int) := by omega
  have hst := at_of hw h0 h1
  have nat : ∀ x : Int, 0 ≤ x ∧ x < (k : Int) → ∃ n : Nat, x = n ∧ n < T.length := fun x hx => ⟨x.toNat, by omega, by omega⟩
  unfold clausesP
  dsimp only
  by_cases o0 : (ndAt T k).op = 0
  · rw [if_pos o0]
    exact wwrite_0 h hk o0 fun W ov hW => wtruth_ok hW hr9 (by omega)
  rw [if_neg o0]
  by_cases o2 : (ndAt T k).op = 2
  · rw [if_pos o2]
    obtain ⟨s0, s1, s2⟩ := srt_and hw h0 h1 (.inl o2)
    obtain ⟨p, q⟩ := hst.two (.inr (.inr (.inl o2)))
    obtain ⟨a, ea, la⟩ := nat _ p
    obtain ⟨b, eb, lb⟩ := nat _ q
    rw [ea] at s1
    rw [eb] at s2
    rw [ea, eb]
    exact wwrite_2 h hk o2 fun W ov hW => wand_ok hc hW hr9 hw hT hk ea eb la lb s0 s1 s2
  rw [if_neg o2]
  by_cases o3 : (ndAt T k).op = 3
  · rw [if_pos o3]
    obtain ⟨s0, s1, s2⟩ := srt_and hw h0 h1 (.inr o3)
    obtain ⟨p, q⟩ := hst.two (.inr (.inr (.inr o3)))
    obtain ⟨a, ea, la⟩ := nat _ p
    obtain ⟨b, eb, lb⟩ := nat _ q
    rw [ea] at s1
    rw [eb] at s2
    rw [ea, eb]
    exact wwrite_3 h hk o3 fun W ov hW => wor_ok hc hW hr9 hw hT hk ea eb la lb s0 s1 s2
  rw [if_neg o3]
  by_cases o6 : (ndAt T k).op = 6
  · rw [if_pos o6]
    obtain ⟨s0, s1⟩ := srt_eq hw h0 h1 o6
    obtain ⟨p, q⟩ := hst.two (.inl o6)
    obtain ⟨a, ea, la⟩ := nat _ p
    obtain ⟨b, eb, lb⟩ := nat _ q
    rw [ea, eb] at s1
    rw [ea, eb]
    by_cases sa : (ndAt T a).sort = 0
    · rw [if_pos sa]
      exact wwrite_6 h hk o6 fun W ov hW => weq_ok hc hW hr9 hw hT hk ea eb la lb s0 sa (by rw [← s1]; exact sa)
    · rw [if_neg sa]
      exact wwrite_6 h hk o6 fun W ov hW => weq_none hW hk ea la sa
  rw [if_neg o6]
  by_cases o7 : (ndAt T k).op = 7
  · rw [if_pos o7]
    obtain ⟨s0, s1, s2⟩ := srt_ite hw h0 h1 o7
    have hl := hst.len_of (lo := 3) (by rw [o7]; decide)
    have p0 : 0 ≤ (ndAt T k).a0 ∧ (ndAt T k).a0 < k := hst.arg_lt 0 (by omega) (by rw [hl]; decide)
    have p1 : 0 ≤ (ndAt T k).a1 ∧ (ndAt T k).a1 < k := hst.arg_lt 1 (by omega) (by rw [hl]; decide)
    have p2 : 0 ≤ (ndAt T k).a2 ∧ (ndAt T k).a2 < k := hst.arg_lt 2 (by omega) (by rw [hl]; decide)
    obtain ⟨a, ea, la⟩ := nat _ p0
    obtain ⟨b, eb, lb⟩ := nat _ p1
    obtain ⟨d, ed, ld⟩ := nat _ p2
    have hget : T[k]? = some (ndAt T (k : Int)) := by rw [ndAt_nat hk]; exact List.getElem?_eq_getElem hk
    obtain ⟨k1, k2⟩ := hI k _ hget o7
    have nb := base_ne hw (i := (k : Int)) ⟨h0, h1⟩ o7 p1
    rw [ea] at s0
    rw [eb] at s1 k1
    rw [ed] at s2 k2
    rw [ea, eb, ed]
    by_cases t0 : (ndAt T k).sort = 0
    · rw [if_pos t0]
      exact wwrite_7 h hk o7 fun W ov hW => wite0_ok hc hW hr9 hw hT hk ea eb ed la lb ld t0 s0 (by rw [s1]; exact t0) (by rw [s2]; exact t0)
    rw [if_neg t0]
    by_cases t1 : (ndAt T k).sort = 1
    · rw [if_pos t1]
      obtain ⟨m1, m2, m3⟩ := k1.1 t1
      obtain ⟨m4, m5, m6⟩ := k2.1 t1
      have sk : Shd T (k : Int) := ⟨h0, h1, t1⟩
      have sb : Shd T (b : Int) := ⟨by omega, by omega, by rw [s1]; exact t1⟩
      have sd : Shd T (d : Int) := ⟨by omega, by omega, by rw [s2]; exact t1⟩
      have ps : ∀ x y, diffNd x y (difN T x y) ∈ T → 0 ≤ litT T (diffNd x y (difN T x y)) := fun x y hn => (litT_facts hn).1
      have e : (baseT T (k : Int)).1 = k := nb.1
      have n1 : diffNd (baseT T (k : Int)).1 (baseT T b).1 (difN T k b) ∈ T := by rw [e]; exact m2
      have n2 : diffNd (baseT T b).1 (baseT T (k : Int)).1 (difN T b k) ∈ T := by rw [e]; exact m3
      have n3 : diffNd (baseT T (k : Int)).1 (baseT T d).1 (difN T k d) ∈ T := by rw [e]; exact m5
      have n4 : diffNd (baseT T d).1 (baseT T (k : Int)).1 (difN T d k) ∈ T := by rw [e]; exact m6
      exact wwrite_7 h hk o7 fun W ov hW => wite1_ok hc hW hr9 hw hT hk ea eb ed la s0 t1
        (difW_diff hw hT hc sk sb m1 n1) (litT_facts n1).1 (difW_diff hw hT hc sb sk (difN_neg m1) n2) (litT_facts n2).1
        (difW_diff hw hT hc sk sd m4 n3) (litT_facts n3).1 (difW_diff hw hT hc sd sk (difN_neg m4) n4) (litT_facts n4).1
    · rw [if_neg t1]
      exact wwrite_7 h hk o7 fun W ov hW => wite2_ok hc hW hr9 hw hT hk ea eb ed la s0 rfl t0 t1 (difW_same (k1.2 t0 t1)) (litT_facts (k1.2 t0 t1)).1 (difW_same (k2.2 t0 t1)) (litT_facts (k2.2 t0 t1)).1
  rw [if_neg o7]
  have hf := hw.core.fit _ (ndAt_mem h0 h1)
  have ho : 0 ≤ (ndAt T k).op ∧ (ndAt T k).op ≤ 13 := by
    obtain ⟨lo, hi, ha, _⟩ := hst.ar
    unfold arityM at ha
    by_cases hn : 0 ≤ (ndAt T k).op ∧ (ndAt T k).op ≤ 13
    · exact hn
    · rw [if_neg (by omega), if_neg (by omega), if_neg (by omega), if_neg (by omega), if_neg (by omega)] at ha
      cases ha
  have n4 : ¬ ((ndAt T k).op = 4 ∨ (ndAt T k).op = 5 ∨ (ndAt T k).op = 8 ∨ (ndAt T k).op = 9) := fun e => by
    unfold fitB at hf
    rw [if_pos e] at hf
    cases hf
  rcases (show (ndAt T k).op = 1 ∨ (ndAt T k).op = 10 ∨ (ndAt T k).op = 11 ∨ (ndAt T k).op = 12 ∨ (ndAt T k).op = 13 by omega) with o | o | o | o | o
  · exact wwrite_1 h hk o
  · exact wwrite_10 h hk o
  · exact wwrite_11 h hk o
  · exact wwrite_12 h hk o
  · exact wwrite_13 h hk o
end Go.Proofs.YtlipnnibagidiaaGreat

/- shape.Of. -/
namespace Go.Proofs.YtlipnnibagidiaaGreat
open Go.RowKit Go.Lib

def ShOfIs (T : List Nd) (k : Nat) (w : World) (e : Ending) (w' : World) : Prop :=
  ∃ v rows, e = .returned (.tuple #[v, .int .i64 0]) ∧ GridV (fun b => w.heap.size ≤ b) w' v rows ∧ rows.map (fun r => r.2.2) = shapeP T k ∧ Below w.heap.size w w'
set_option maxRecDepth 100000 in
set_option maxHeartbeats 2000000 in
theorem shof_ok {T : List Nd} {w : World} {A : Option Addr} (c : Nat) (hc : T.length ≤ c) (h : Tab w A T) (hw : Well T) (hI : IteOk T) (k : Nat) (hk : k < T.length) :
    Calls Tryz.prog 17 #[.agg #[.slice A T.length c], .int .i64 (k : Nat)] w (ShOfIs T k w) := by
  have hlen := h.len
  have HB0 : Hid (Below w.heap.size w (w.alloc (.cells #[.slice A T.length c] 33))) := Lib.hid ((Below.refl _ w).alloc (Nat.le_refl _) _)
  have HT0 := Lib.hid (Blk.new w 33 #[.slice A T.length c])
  have KC := Lib.hid (check_ok c hc (h.below HB0.out))
  have KW := Lib.hid (fun (W : World) (r : Nat) (hW : WrS W r A T c k (.slice none 0 0) [] false) => wwrite_ok hc hW (by simp) hw hI (by omega) hk)
  have HS := Lib.hid (fun (W : World) (r : Nat) (hW : Below w.heap.size w W) (hB : Blk W r 92 #[.slice A T.length c, .int .i64 k, .slice none 0 0, .bool false]) (hr : w.heap.size ≤ r) =>
    show WrS W r A T c k (.slice none 0 0) [] false from ⟨hB, World.ownsRow_nil _ _ _ _, fun q hq => (by cases hq), h.below hW, (fun b e h0 => by
      obtain ⟨b2, off, hA, hb, _⟩ := h.at_.resolve_left (by omega)
      rw [hA] at e
      injection e with e
      rw [← e]
      exact Nat.lt_of_lt_of_le hb hr), by simp⟩)
  have HTo := Lib.hid hw.core.ok
  have x0 := HT0.out.cell 0
  simp only [List.getElem?_toArray, List.getElem?_cons_zero] at x0
  have dk : decide ((k : Int) < 0) = false := by simp
  have dk2 : decide ((k : Int) ≥ (T.length : Int)) = false := by simp; omega
  have dk3 : decide (T.length ≤ k) = false := by simp; omega
  clear hc h hw hI hk
  go_enter Tryz.func17, Tryz.ntmps17
  go_wp2_with fail
  refine KC.out.mono ?_
  rintro e w1 ⟨rr, rfl, hr, hb⟩
  obtain rfl : rr = true := hr.2 HTo.out
  have HB1 := Lib.hid (HB0.out.trans (hb.mono HB0.out.size))
  have HT1 := Lib.hid (HT0.out.below hb HT0.out.lt)
  have x1 := HT1.out.cell 0
  simp only [List.getElem?_toArray, List.getElem?_cons_zero] at x1
  clear hr hb x0 KC
  go_wp2_with fail
  have HB2 := Lib.hid (HB1.out.alloc HB1.out.size (.cells #[.slice A T.length c, .int .i64 k, .slice none 0 0, .bool false] 92))
  have HW2 := Lib.hid (HS.out _ _ HB2.out (Blk.new w1 _ _) HB1.out.size)
  refine (KW.out _ _ HW2.out).mono ?_
  rintro e w3 ⟨rfl, ov, ps, h3, hp, hb3⟩
  obtain ⟨A3, cap3, rfl⟩ : ∃ A3 cap3, ov = .slice A3 ps.length cap3 := by
    obtain ⟨A3, cap3, e, _⟩ := (GridV.of_own (N := fun _ => True) h3.own (h3.rn.mono (fun _ _ _ => trivial)) (fun _ _ => trivial) (by have := h3.len; omega)).form
    exact ⟨A3, cap3, e⟩
  have y2 : w3.cell? ⟨w1.heap.size, 2, none⟩ = some (.slice A3 ps.length cap3) := h3.blk.cell 2
  have y3 : w3.cell? ⟨w1.heap.size, 3, none⟩ = some (.bool false) := h3.blk.cell 3
  have H3 := Lib.hid h3
  have HP := Lib.hid hp
  have HB3 := Lib.hid hb3
  clear h3 hp hb3 x1
  go_wp2
  refine bodyPost_ret (v := .tuple #[.slice A3 ps.length cap3, .int .i64 0]) (by simp [results, Tryz.results17, go_sem]) rfl ?_
  have hle : w.heap.size ≤ w1.heap.size := HB1.out.size
  refine ⟨_, ps, rfl, GridV.of_own H3.out.own (H3.out.rn.mono (fun b _ hN => by have := hN.1; omega)) (fun b hb => by omega) (by have := H3.out.len; simp at this; omega), by rw [HP.out]; rfl, HB2.out.trans (HB3.out.mono hle)⟩
end Go.Proofs.YtlipnnibagidiaaGreat

/- shape.Count. -/
namespace Go.Proofs.YtlipnnibagidiaaGreat
open Go.RowKit Go.Lib

set_option maxRecDepth 100000 in
set_option maxHeartbeats 2000000 in
theorem shcount_ok {T : List Nd} {w : World} {A : Option Addr} (c : Nat) (hc : T.length ≤ c) (h : Tab w A T) (hw : Well T) (hI : IteOk T) (k : Nat) (hk : k < T.length) :
    Calls Tryz.prog 20 #[.agg #[.slice A T.length c], .int .i64 (k : Nat)] w fun e w' => e = .returned (.int .i64 ((shapeP T k).length : Nat)) ∧ Below w.heap.size w w' := by
  have HB0 : Hid (Below w.heap.size w (w.alloc (.cells #[.slice A T.length c] 33))) := Lib.hid ((Below.refl _ w).alloc (Nat.le_refl _) _)
  have HT0 := Lib.hid (Blk.new w 33 #[.slice A T.length c])
  have KO := Lib.hid (shof_ok c hc (h.below HB0.out) hw hI k hk)
  have x0 := HT0.out.cell 0
  simp only [List.getElem?_toArray, List.getElem?_cons_zero] at x0
  clear hc h hw hI hk
  go_enter Tryz.func20, Tryz.ntmps20
  go_wp2_with fail
  refine KO.out.mono ?_
  rintro e w1 ⟨v, rows, rfl, hg, hm, hb⟩
  obtain ⟨A1, cap1, rfl, _⟩ := hg.form
  have HB1 := Lib.hid (HB0.out.trans (hb.mono HB0.out.size))
  have HL : Hid ((shapeP T k).length = rows.length) := Lib.hid (by rw [← hm, List.length_map])
  clear hg hm hb x0
  go_wp2
  refine bodyPost_ret (v := .int .i64 (rows.length : Nat)) (by simp [results, Tryz.results20, go_sem]) rfl ?_
  rw [HL.out]
  exact ⟨rfl, HB1.out⟩
end Go.Proofs.YtlipnnibagidiaaGreat

/- ContainsFunc over rows of ints, by a predicate that makes memory. -/
namespace Go.Proofs.YtlipnnibagidiaaGreat
open Go.RowKit

set_option maxHeartbeats 1000000 in
theorem gindex_ok {N : Nat → Prop} {w : World} {B : Option Addr} {L : List (Option Addr × Nat × List Int)} (cap : Nat) (g : Nat) (lb : Array Value) (p : Option Addr × Nat × List Int → Bool) (eg : ∀ args w, (callFunc g args).run Tryz.prog w = .ok (.enter g args) w) (h0 : GridV N w (.slice B L.length cap) L)
    (hp : ∀ W x, x ∈ L → Below w.heap.size w W → Calls Tryz.prog g (#[encR x] ++ lb) W fun e w' => e = .returned (.bool (p x)) ∧ Below W.heap.size W w') :
    Calls Tryz.prog 86 #[.slice B L.length cap, .func (.func g) #[] lb] w fun e w' => ∃ r : Int, e = .returned (.int .i64 r) ∧ (0 ≤ r ↔ L.any p = true) ∧ Below w.heap.size w w' := by
  have hlen := h0.len
  have HP := Lib.hid hp
  have H0 := Lib.hid h0
  clear hp h0
  go_enter Tryz.func86, Tryz.ntmps86
  go_wp2
  go_loopg [8] L.length (fun g v wr => ∃ i : Nat, i + g = L.length ∧ v = .int .i64 i ∧ Below w.heap.size w wr ∧ (L.any p = true ↔ (L.drop i).any p = true))
  case atStart => exact ⟨0, by omega, rfl, Below.refl _ _, Iff.rfl⟩
  case round =>
    obtain ⟨i, hig, rfl, hi, hinv⟩ := hrel
    have HW := Lib.hid hi
    have HV := Lib.hid hinv
    clear hi hinv
    cases gk with
    | zero =>
      obtain rfl : i = L.length := by omega
      have d1 : decide ((L.length : Int) < L.length) = false := by simp
      have HN : Hid ((0 : Int) ≤ -1 ↔ L.any p = true) := Lib.hid ⟨fun h => by omega, fun h => by have := HV.out.1 h; rw [List.drop_length] at this; cases this⟩
      go_wp2
      go_ret
      exact ⟨_, rfl, HN.out, HW.out⟩
    | succ gk =>
      have hlt : i < L.length := by omega
      have d1 : decide ((i : Int) < L.length) = true := by simp; omega
      have t1 : (0 : Int) ≤ (i : Int) := by omega
      have t2 : (i : Int) < (L.length : Int) := by omega
      obtain ⟨A0, cap0, hV, _, _, hat⟩ := H0.out.form
      injection hV with hV1 hV2 hV3
      subst hV1 hV3
      obtain ⟨b, off, hA, _, hbb, hcell⟩ := hat.resolve_left (by omega)
      have y0 : wr.cell? ⟨b, off + i, none⟩ = some (encR L[i]) := by rw [HW.out.cell (p := ⟨b, off + i, none⟩) hbb]; exact hcell i hlt
      have KP := Lib.hid (HP.out wr L[i] (List.getElem_mem hlt) HW.out)
      have HD := Lib.hid (show (L.drop i).any p = (p L[i] || (L.drop (i + 1)).any p) by rw [List.drop_eq_getElem_cons hlt, List.any_cons])
      subst hA
      clear hcell
      generalize L[i] = x at *
      clear hV2
      unfold encR at y0 KP
      obtain ⟨r, hr⟩ : ∃ r, p x = r := ⟨_, rfl⟩
      rw [hr] at KP HD
      clear hr
      go_wp2_with fail
      refine KP.out.mono ?_
      rintro e w2 ⟨rfl, h2⟩
      have H2 := Lib.hid (HW.out.trans (h2.mono HW.out.size))
      clear h2 y0
      cases r with
      | true =>
        have HN : Hid ((0 : Int) ≤ (i : Int) ↔ L.any p = true) := Lib.hid ⟨fun _ => HV.out.2 (by rw [HD.out]; rfl), fun _ => by omega⟩
        go_wp2
        go_ret
        exact ⟨_, rfl, HN.out, H2.out⟩
      | false =>
        go_wp2
        go_roundg gk
        case measure => omega
        case rel => exact ⟨i + 1, by omega, by go_num, H2.out, by rw [HV.out, HD.out]; simp⟩
theorem gcontains_ok {N : Nat → Prop} {w : World} {B : Option Addr} {L : List (Option Addr × Nat × List Int)} (cap : Nat) (g : Nat) (lb : Array Value) (p : Option Addr × Nat × List Int → Bool) (eg : ∀ args w, (callFunc g args).run Tryz.prog w = .ok (.enter g args) w) (h0 : GridV N w (.slice B L.length cap) L)
    (hp : ∀ W x, x ∈ L → Below w.heap.size w W → Calls Tryz.prog g (#[encR x] ++ lb) W fun e w' => e = .returned (.bool (p x)) ∧ Below W.heap.size W w') :
    Calls Tryz.prog 48 #[.slice B L.length cap, .func (.func g) #[] lb] w fun e w' => e = .returned (.bool (L.any p)) ∧ Below w.heap.size w w' := by
  have KI := Lib.hid (gindex_ok cap g lb p eg h0 hp)
  obtain ⟨bb, hbb⟩ : ∃ bb, L.any p = bb := ⟨_, rfl⟩
  have HBB := Lib.hid hbb
  rw [hbb]
  clear hp h0 hbb eg
  go_enter Tryz.func48, Tryz.ntmps48
  go_wp2_with fail
  refine KI.out.mono ?_
  rintro e w2 ⟨r, rfl, hr, hk⟩
  have HK := Lib.hid hk
  have d0 : decide (0 ≤ r) = bb := by
    rw [← HBB.out, Bool.eq_iff_iff, decide_eq_true_iff]
    exact hr
  clear hk hr
  go_wp2
  go_ret
  exact ⟨by rw [← d0]; rfl, HK.out⟩
end Go.Proofs.YtlipnnibagidiaaGreat
