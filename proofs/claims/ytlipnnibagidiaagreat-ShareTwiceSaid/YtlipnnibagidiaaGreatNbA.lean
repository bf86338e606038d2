/- The plain side of layer 14: each clause names its node. -/
import Derived.Test.YtlipnnibagidiaaGreatSpP
import Derived.Test.YtlipnnibagidiaaGreatRfC
import Derived.Test.YtlipnnibagidiaaGreatNuB
namespace Go.Proofs.YtlipnnibagidiaaGreat

theorem litT_facts {T : List Nd} {n : Nd} (h : n ∈ T) : 0 ≤ litT T n ∧ litT T n / 2 < T.length ∧ ndAt T (litT T n / 2) = n := by
  have hl := List.idxOf_lt_length_iff.2 h
  rw [litT_half.1]
  refine ⟨by unfold litT; omega, by omega, ?_⟩
  rw [ndAt_nat hl]
  simp
theorem at_of {T : List Nd} (h : Well T) {id : Int} (h0 : 0 ≤ id) (h1 : id < T.length) : Stands (ndAt T id) id := by
  obtain ⟨k, rfl⟩ : ∃ n : Nat, id = n := ⟨id.toNat, by omega⟩
  rw [ndAt_nat (by omega)]
  exact h.core.ok.st k _ (List.getElem?_eq_getElem (by omega))
theorem srt_and {T : List Nd} (h : Well T) {id : Int} (h0 : 0 ≤ id) (h1 : id < T.length) (ho : (ndAt T id).op = 2 ∨ (ndAt T id).op = 3) : (ndAt T id).sort = 0 ∧ (ndAt T (ndAt T id).a0).sort = 0 ∧ (ndAt T (ndAt T id).a1).sort = 0 := by
  have hr := h.srt _ (ndAt_mem h0 h1) (by omega)
  rcases ho with ho | ho
  all_goals
    rw [ho] at hr
    unfold opSort at hr
    simp at hr
    exact ⟨hr.2.symm, hr.1.1, hr.1.2⟩
theorem srt_eq {T : List Nd} (h : Well T) {id : Int} (h0 : 0 ≤ id) (h1 : id < T.length) (ho : (ndAt T id).op = 6) : (ndAt T id).sort = 0 ∧ (ndAt T (ndAt T id).a0).sort = (ndAt T (ndAt T id).a1).sort := by
  have hr := h.srt _ (ndAt_mem h0 h1) (by omega)
  rw [ho] at hr
  unfold opSort at hr
  simp at hr
  exact ⟨hr.2.symm, hr.1⟩
theorem srt_ite {T : List Nd} (h : Well T) {id : Int} (h0 : 0 ≤ id) (h1 : id < T.length) (ho : (ndAt T id).op = 7) : (ndAt T (ndAt T id).a0).sort = 0 ∧ (ndAt T (ndAt T id).a1).sort = (ndAt T id).sort ∧ (ndAt T (ndAt T id).a2).sort = (ndAt T id).sort := by
  have hr := h.srt _ (ndAt_mem h0 h1) (by omega)
  rw [ho] at hr
  unfold opSort at hr
  simp at hr
  exact ⟨hr.1.1, hr.2, by rw [← hr.1.2]; exact hr.2⟩
/-- A literal's node is a place; it is the node, or has it for an argument. -/
def InT (T : List Nd) (x : Int) : Prop := 0 ≤ x ∧ x / 2 < T.length
def NamesL (T : List Nd) (id x : Int) : Prop := x / 2 = id ∨ (ndAt T (x / 2)).a0 = id ∨ (ndAt T (x / 2)).a1 = id
theorem InT.neg {T : List Nd} {x : Int} (h : InT T x) : InT T (negL x) := by
  obtain ⟨h1, h2, _⟩ := negL_facts h.1
  exact ⟨h1, by rw [h2]; exact h.2⟩
theorem NamesL.neg {T : List Nd} {id x : Int} (h0 : 0 ≤ x) (h : NamesL T id x) : NamesL T id (negL x) := by
  unfold NamesL
  rw [(negL_facts h0).2.1]
  exact h
theorem litP_in {T : List Nd} (h : Well T) {id : Int} (h0 : 0 ≤ id) (h1 : id < T.length) (hs : (ndAt T id).sort = 0) : InT T (litP T id) := ⟨(litP_facts h h0 h1 hs).1, (litP_facts h h0 h1 hs).2.1⟩
/-- A clause names its node. -/
structure NamesC (T : List Nd) (id : Int) (c : List Int) : Prop where
  in_ : ∀ x ∈ c, InT T x
  names : ∃ x ∈ c, NamesL T id x
  len : c.length ≤ 3
theorem clausesP_names {T : List Nd} (h : Well T) (hI : IteOk T) {id : Int} (h0 : 0 ≤ id) (h1 : id < T.length) : ∀ c ∈ clausesP T id, NamesC T id c := by
  intro c hc
  have hst := at_of h h0 h1
  have lit2 : (ndAt T id).op ≠ 1 → (ndAt T id).sort = 0 → litP T id / 2 = id ∧ InT T (litP T id) := fun ho hs => by
    obtain ⟨g1, g2, _, _, g5, _⟩ := litP_facts h h0 h1 hs
    rw [g5 ho]
    exact ⟨by omega, by omega, by omega⟩
  unfold clausesP at hc
  dsimp only at hc
  split at hc
  · obtain rfl := List.mem_singleton.1 hc
    have e : 2 * id / 2 = id := by omega
    exact ⟨fun x hx => by obtain rfl := List.mem_singleton.1 hx; exact ⟨by omega, by rw [e]; exact h1⟩, ⟨_, by simp, .inl e⟩, by simp⟩
  split at hc
  · rename_i ho
    obtain ⟨s0, s1, s2⟩ := srt_and h h0 h1 (.inl ho)
    obtain ⟨⟨p0, p1⟩, q0, q1⟩ := hst.two (.inr (.inr (.inl ho)))
    obtain ⟨t1, t2⟩ := lit2 (by omega) s0
    have ia := litP_in h p0 (by omega) s1
    have ib := litP_in h q0 (by omega) s2
    have nt : NamesL T id (litP T id) := .inl t1
    generalize litP T id = t at *
    generalize litP T (ndAt T id).a0 = a at *
    generalize litP T (ndAt T id).a1 = b at *
    simp only [List.mem_cons, List.not_mem_nil, or_false] at hc
    rcases hc with rfl | rfl | rfl
    · exact ⟨fun x hx => by simp at hx; rcases hx with rfl | rfl; exact t2.neg; exact ia, ⟨negL t, by simp, nt.neg t2.1⟩, by simp⟩
    · exact ⟨fun x hx => by simp at hx; rcases hx with rfl | rfl; exact t2.neg; exact ib, ⟨negL t, by simp, nt.neg t2.1⟩, by simp⟩
    · exact ⟨fun x hx => by simp at hx; rcases hx with rfl | rfl | rfl; exact t2; exact ia.neg; exact ib.neg, ⟨t, by simp, nt⟩, by simp⟩
  split at hc
  · rename_i ho
    obtain ⟨s0, s1, s2⟩ := srt_and h h0 h1 (.inr ho)
    obtain ⟨⟨p0, p1⟩, q0, q1⟩ := hst.two (.inr (.inr (.inr ho)))
    obtain ⟨t1, t2⟩ := lit2 (by omega) s0
    have ia := litP_in h p0 (by omega) s1
    have ib := litP_in h q0 (by omega) s2
    have nt : NamesL T id (litP T id) := .inl t1
    generalize litP T id = t at *
    generalize litP T (ndAt T id).a0 = a at *
    generalize litP T (ndAt T id).a1 = b at *
    simp only [List.mem_cons, List.not_mem_nil, or_false] at hc
    rcases hc with rfl | rfl | rfl
    · exact ⟨fun x hx => by simp at hx; rcases hx with rfl | rfl; exact t2; exact ia.neg, ⟨t, by simp, nt⟩, by simp⟩
    · exact ⟨fun x hx => by simp at hx; rcases hx with rfl | rfl; exact t2; exact ib.neg, ⟨t, by simp, nt⟩, by simp⟩
    · exact ⟨fun x hx => by simp at hx; rcases hx with rfl | rfl | rfl; exact t2.neg; exact ia; exact ib, ⟨negL t, by simp, nt.neg t2.1⟩, by simp⟩
  split at hc
  · rename_i ho
    split at hc
    rotate_left
    · cases hc
    rename_i hs
    obtain ⟨s0, s1⟩ := srt_eq h h0 h1 ho
    obtain ⟨⟨p0, p1⟩, q0, q1⟩ := hst.two (.inl ho)
    obtain ⟨t1, t2⟩ := lit2 (by omega) s0
    have ia := litP_in h p0 (by omega) hs
    have ib := litP_in h q0 (by omega) (by rw [← s1]; exact hs)
    have nt : NamesL T id (litP T id) := .inl t1
    generalize litP T id = t at *
    generalize litP T (ndAt T id).a0 = a at *
    generalize litP T (ndAt T id).a1 = b at *
    simp only [List.mem_cons, List.not_mem_nil, or_false] at hc
    rcases hc with rfl | rfl | rfl | rfl
    · exact ⟨fun x hx => by simp at hx; rcases hx with rfl | rfl | rfl; exact t2.neg; exact ia.neg; exact ib, ⟨negL t, by simp, nt.neg t2.1⟩, by simp⟩
    · exact ⟨fun x hx => by simp at hx; rcases hx with rfl | rfl | rfl; exact t2.neg; exact ia; exact ib.neg, ⟨negL t, by simp, nt.neg t2.1⟩, by simp⟩
    · exact ⟨fun x hx => by simp at hx; rcases hx with rfl | rfl | rfl; exact t2; exact ia; exact ib, ⟨t, by simp, nt⟩, by simp⟩
    · exact ⟨fun x hx => by simp at hx; rcases hx with rfl | rfl | rfl; exact t2; exact ia.neg; exact ib.neg, ⟨t, by simp, nt⟩, by simp⟩
  split at hc
  · rename_i ho
    obtain ⟨s0, s1, s2⟩ := srt_ite h h0 h1 ho
    have hl := hst.len_of (lo := 3) (by rw [ho]; decide)
    have p0 : 0 ≤ (ndAt T id).a0 ∧ (ndAt T id).a0 < id := hst.arg_lt 0 (by omega) (by rw [hl]; decide)
    have p1 : 0 ≤ (ndAt T id).a1 ∧ (ndAt T id).a1 < id := hst.arg_lt 1 (by omega) (by rw [hl]; decide)
    have p2 : 0 ≤ (ndAt T id).a2 ∧ (ndAt T id).a2 < id := hst.arg_lt 2 (by omega) (by rw [hl]; decide)
    have ia := litP_in h p0.1 (by omega) s0
    split at hc
    · rename_i hs
      obtain ⟨t1, t2⟩ := lit2 (by omega) hs
      have ib := litP_in h p1.1 (by omega) (by rw [s1, hs])
      have ic := litP_in h p2.1 (by omega) (by rw [s2, hs])
      have nt : NamesL T id (litP T id) := .inl t1
      generalize litP T id = t at *
      generalize litP T (ndAt T id).a0 = a at *
      generalize litP T (ndAt T id).a1 = b at *
      generalize litP T (ndAt T id).a2 = d at *
      simp only [List.mem_cons, List.not_mem_nil, or_false] at hc
      rcases hc with rfl | rfl | rfl | rfl
      · exact ⟨fun x hx => by simp at hx; rcases hx with rfl | rfl | rfl; exact t2.neg; exact ia.neg; exact ib, ⟨negL t, by simp, nt.neg t2.1⟩, by simp⟩
      · exact ⟨fun x hx => by simp at hx; rcases hx with rfl | rfl | rfl; exact t2.neg; exact ia; exact ic, ⟨negL t, by simp, nt.neg t2.1⟩, by simp⟩
      · exact ⟨fun x hx => by simp at hx; rcases hx with rfl | rfl | rfl; exact t2; exact ia.neg; exact ib.neg, ⟨t, by simp, nt⟩, by simp⟩
      · exact ⟨fun x hx => by simp at hx; rcases hx with rfl | rfl | rfl; exact t2; exact ia; exact ic.neg, ⟨t, by simp, nt⟩, by simp⟩
    · rename_i hs
      obtain ⟨idN, rfl⟩ : ∃ n : Nat, id = n := ⟨id.toNat, by omega⟩
      have hget : T[idN]? = some (ndAt T (idN : Int)) := by rw [ndAt_nat (by omega)]; exact List.getElem?_eq_getElem (by omega)
      obtain ⟨k1, k2⟩ := hI idN _ hget ho
      have bi := fun a ha => base_ne h (i := (idN : Int)) (a := a) ⟨h0, h1⟩ ho ha
      split at hc
      · rename_i hs1
        obtain ⟨m1, m2, m3⟩ := k1.1 hs1
        obtain ⟨m4, m5, m6⟩ := k2.1 hs1
        have f : ∀ b : Int, 0 ≤ b ∧ b < (idN : Int) → diffNd (idN : Int) (baseT T b).1 (difN T idN b) ∈ T → diffNd (baseT T b).1 (idN : Int) (difN T b idN) ∈ T → (InT T (diffP T idN b) ∧ NamesL T idN (diffP T idN b)) ∧ InT T (diffP T b idN) ∧ NamesL T idN (diffP T b idN) := fun b hb g1 g2 => by
          obtain ⟨b1, _⟩ := bi b hb
          have u1 := litT_facts g1
          have u2 := litT_facts g2
          unfold diffP
          rw [b1]
          exact ⟨⟨⟨u1.1, u1.2.1⟩, .inr (.inl (by rw [u1.2.2]; rfl))⟩, ⟨u2.1, u2.2.1⟩, .inr (.inr (by rw [u2.2.2]; rfl))⟩
        obtain ⟨⟨f1, f2⟩, f3, f4⟩ := f _ p1 m2 m3
        obtain ⟨⟨f5, f6⟩, f7, f8⟩ := f _ p2 m5 m6
        generalize litP T (ndAt T (idN : Int)).a0 = a at *
        simp only [List.mem_cons, List.not_mem_nil, or_false] at hc
        rcases hc with rfl | rfl | rfl | rfl
        · exact ⟨fun x hx => by simp at hx; rcases hx with rfl | rfl; exact ia.neg; exact f1, ⟨_, by simp, f2⟩, by simp⟩
        · exact ⟨fun x hx => by simp at hx; rcases hx with rfl | rfl; exact ia.neg; exact f3, ⟨_, by simp, f4⟩, by simp⟩
        · exact ⟨fun x hx => by simp at hx; rcases hx with rfl | rfl; exact ia; exact f5, ⟨_, by simp, f6⟩, by simp⟩
        · exact ⟨fun x hx => by simp at hx; rcases hx with rfl | rfl; exact ia; exact f7, ⟨_, by simp, f8⟩, by simp⟩
      · rename_i hs1
        have f : ∀ b : Int, 0 ≤ b ∧ b < (idN : Int) → eqNd (min (idN : Int) b) (max (idN : Int) b) ∈ T → InT T (sameP T idN b) ∧ NamesL T idN (sameP T idN b) := fun b hb g1 => by
          have u1 := litT_facts g1
          unfold sameP
          refine ⟨⟨u1.1, u1.2.1⟩, .inr (.inr ?_)⟩
          rw [u1.2.2]
          show max (idN : Int) b = idN
          omega
        obtain ⟨f1, f2⟩ := f _ p1 (k1.2 hs hs1)
        obtain ⟨f5, f6⟩ := f _ p2 (k2.2 hs hs1)
        generalize litP T (ndAt T (idN : Int)).a0 = a at *
        simp only [List.mem_cons, List.not_mem_nil, or_false] at hc
        rcases hc with rfl | rfl
        · exact ⟨fun x hx => by simp at hx; rcases hx with rfl | rfl; exact ia.neg; exact f1, ⟨_, by simp, f2⟩, by simp⟩
        · exact ⟨fun x hx => by simp at hx; rcases hx with rfl | rfl; exact ia; exact f5, ⟨_, by simp, f6⟩, by simp⟩
  · cases hc
/-- .. as the clauses are made. -/
theorem shapeP_names {T : List Nd} (h : Well T) (hI : IteOk T) {id : Int} (h0 : 0 ≤ id) (h1 : id < T.length) : ∀ c ∈ shapeP T id, NamesC T id c ∧ Ord c ∧ c ≠ [] := by
  intro c hc
  obtain ⟨d, hd, rfl⟩ := List.mem_map.1 hc
  obtain ⟨g1, ⟨x, hx, g2⟩, g3⟩ := clausesP_names h hI h0 h1 d hd
  have hx0 := (g1 x hx).1
  exact ⟨⟨fun y hy => g1 y ((mem_make d y).1 hy).1, ⟨x, (mem_make d x).2 ⟨hx, hx0⟩, g2⟩, Nat.le_trans (spmake_len d) g3⟩, make_ord d, make_ne hx hx0⟩
end Go.Proofs.YtlipnnibagidiaaGreat

/- The plain side of layer 14: clauses hold in each world, and are tight. -/
namespace Go.Proofs.YtlipnnibagidiaaGreat

def bitI (p : Prop) [Decidable p] : Int := if p then 1 else 0
/-- The values of a table's nodes in a world in which nothing overflows. -/
structure Sem (T : List Nd) (val : Int → Int) : Prop where
  bool : ∀ i : Int, 0 ≤ i → i < T.length → (ndAt T i).sort = 0 → val i = 0 ∨ val i = 1
  tru : ∀ i : Int, 0 ≤ i → i < T.length → (ndAt T i).op = 0 → val i = 1
  not : ∀ i : Int, 0 ≤ i → i < T.length → (ndAt T i).op = 1 → val i = 1 - val (ndAt T i).a0
  and : ∀ i : Int, 0 ≤ i → i < T.length → (ndAt T i).op = 2 → val i = val (ndAt T i).a0 * val (ndAt T i).a1
  or : ∀ i : Int, 0 ≤ i → i < T.length → (ndAt T i).op = 3 → val i = max (val (ndAt T i).a0) (val (ndAt T i).a1)
  eq : ∀ i : Int, 0 ≤ i → i < T.length → (ndAt T i).op = 6 → val i = bitI (val (ndAt T i).a0 = val (ndAt T i).a1)
  ite : ∀ i : Int, 0 ≤ i → i < T.length → (ndAt T i).op = 7 → val i = if val (ndAt T i).a0 = 1 then val (ndAt T i).a1 else val (ndAt T i).a2
  num : ∀ i : Int, 0 ≤ i → i < T.length → (ndAt T i).op = 10 → val i = (ndAt T i).num
  add : ∀ i : Int, 0 ≤ i → i < T.length → (ndAt T i).op = 11 → val i = val (ndAt T i).a0 + (ndAt T i).num
  diff : ∀ i : Int, 0 ≤ i → i < T.length → (ndAt T i).op = 12 → val i = bitI (val (ndAt T i).a0 - val (ndAt T i).a1 ≤ (ndAt T i).num)
/-- A literal's truth by a world's assignment. -/
def onV (val : Int → Int) (x : Int) : Prop := val (x / 2) = 1 - x % 2
theorem onV_lit {a val : Int → Int} {x : Int} (ha : a (x / 2) = 2 - val (x / 2)) : litOn a x ↔ onV val x := by
  unfold litOn onV
  rw [ha]
  constructor <;> intro h <;> omega
theorem onV_neg {val : Int → Int} {x : Int} (h0 : 0 ≤ x) (hv : val (x / 2) = 0 ∨ val (x / 2) = 1) : onV val (negL x) ↔ ¬ onV val x := by
  obtain ⟨_, e1, e2⟩ := negL_facts h0
  unfold onV
  rw [e1, e2]
  rcases hv with h | h <;> rw [h] <;> constructor <;> intro h' <;> omega
theorem litP_on {T : List Nd} (h : Well T) {val : Int → Int} (hv : Sem T val) {id : Int} (h0 : 0 ≤ id) (h1 : id < T.length) (hs : (ndAt T id).sort = 0) : (onV val (litP T id) ↔ val id = 1) ∧ (val (litP T id / 2) = 0 ∨ val (litP T id / 2) = 1) := by
  obtain ⟨g1, g2, g3, g4, g5, g6⟩ := litP_facts h h0 h1 hs
  have hb := hv.bool _ (by omega) g2 g3
  refine ⟨?_, hb⟩
  by_cases ho : (ndAt T id).op = 1
  · obtain ⟨e, _⟩ := g6 ho
    have hn := hv.not id h0 h1 ho
    rw [e] at hb ⊢
    have e1 : (2 * (ndAt T id).a0 + 1) / 2 = (ndAt T id).a0 := by omega
    have e2 : (2 * (ndAt T id).a0 + 1) % 2 = 1 := by omega
    unfold onV
    rw [e1] at hb
    rw [e1, e2, hn]
    constructor <;> intro h <;> omega
  · rw [g5 ho]
    have e1 : 2 * id / 2 = id := by omega
    have e2 : 2 * id % 2 = 0 := by omega
    unfold onV
    rw [e1, e2]
    simp
/-- The value of a base, and of what stands on it. -/
theorem val_base {T : List Nd} (h : Well T) {val : Int → Int} (hv : Sem T val) {x : Int} (hx : Shd T x) : val x = val (baseT T x).1 + (baseT T x).2 := by
  unfold baseT
  split
  · rename_i h11
    exact hv.add x hx.lo hx.hi h11
  · split
    · rename_i h10
      have h1 : ndAt T 1 = zeroNd := ndAt_some (i := 1) h.core.ok.t1
      have hl := h.core.ok.len
      have z := hv.num 1 (by decide) (by omega) (by rw [h1]; rfl)
      rw [h1] at z
      have z' : val 1 = 0 := z
      have := hv.num x hx.lo hx.hi h10
      show val x = val 1 + (ndAt T x).num
      omega
    · show val x = val x + 0
      omega
theorem dif_on {T : List Nd} (h : Well T) {val : Int → Int} (hv : Sem T val) {x y : Int} (hx : Shd T x) (hy : Shd T y) (hm : diffNd (baseT T x).1 (baseT T y).1 (difN T x y) ∈ T) : onV val (diffP T x y) ↔ val x ≤ val y := by
  obtain ⟨u1, u2, u3⟩ := litT_facts hm
  have hd := hv.diff _ (by omega) u2 (by rw [u3]; rfl)
  rw [u3] at hd
  have e2 := litT_half (T := T) (n := diffNd (baseT T x).1 (baseT T y).1 (difN T x y))
  have vx := val_base h hv hx
  have vy := val_base h hv hy
  have hd' : val (litT T (diffNd (baseT T x).1 (baseT T y).1 (difN T x y)) / 2) = bitI (val (baseT T x).1 - val (baseT T y).1 ≤ difN T x y) := hd
  unfold onV diffP
  rw [hd', e2.2.1]
  unfold bitI difN
  split
  · rename_i hle
    exact ⟨fun _ => by omega, fun _ => rfl⟩
  · rename_i hle
    exact ⟨fun h => by omega, fun h => by omega⟩
theorem same_on {T : List Nd} {val : Int → Int} (hv : Sem T val) {x y : Int} (hm : eqNd (min x y) (max x y) ∈ T) : onV val (sameP T x y) ↔ val x = val y := by
  obtain ⟨u1, u2, u3⟩ := litT_facts hm
  have hd := hv.eq _ (by omega) u2 (by rw [u3]; rfl)
  rw [u3] at hd
  have e2 := litT_half (T := T) (n := eqNd (min x y) (max x y))
  have hd' : val (litT T (eqNd (min x y) (max x y)) / 2) = bitI (val (min x y) = val (max x y)) := hd
  unfold onV sameP
  rw [hd', e2.2.1]
  unfold bitI
  rcases Int.le_total x y with hxy | hxy
  · rw [Int.min_eq_left hxy, Int.max_eq_right hxy]
    split
    · rename_i he
      exact ⟨fun _ => he, fun _ => rfl⟩
    · rename_i he
      exact ⟨fun h => by omega, fun h => absurd h he⟩
  · rw [Int.min_eq_right hxy, Int.max_eq_left hxy]
    split
    · rename_i he
      exact ⟨fun _ => he.symm, fun _ => rfl⟩
    · rename_i he
      exact ⟨fun h => by omega, fun h => absurd h.symm he⟩
/-- Each clause has a literal that is so. -/
theorem clausesP_hold {T : List Nd} (h : Well T) (hI : IteOk T) {val : Int → Int} (hv : Sem T val) {id : Int} (h0 : 0 ≤ id) (h1 : id < T.length) : ∀ c ∈ clausesP T id, ∃ x ∈ c, onV val x := by
  intro c hc
  have hst := at_of h h0 h1
  unfold clausesP at hc
  dsimp only at hc
  split at hc
  · rename_i ho
    obtain rfl := List.mem_singleton.1 hc
    refine ⟨2 * id, by simp, ?_⟩
    unfold onV
    rw [show 2 * id / 2 = id by omega, show 2 * id % 2 = 0 by omega, hv.tru id h0 h1 ho]
    rfl
  split at hc
  · rename_i ho
    obtain ⟨s0, s1, s2⟩ := srt_and h h0 h1 (.inl ho)
    obtain ⟨⟨p0, p1⟩, q0, q1⟩ := hst.two (.inr (.inr (.inl ho)))
    have gt := litP_on h hv h0 h1 s0
    have ga := litP_on h hv p0 (by omega) s1
    have gb := litP_on h hv q0 (by omega) s2
    have nt := onV_neg (litP_in h h0 h1 s0).1 gt.2
    have na := onV_neg (litP_in h p0 (by omega) s1).1 ga.2
    have nb := onV_neg (litP_in h q0 (by omega) s2).1 gb.2
    have va := hv.bool _ p0 (by omega) s1
    have vb := hv.bool _ q0 (by omega) s2
    have vt := hv.and id h0 h1 ho
    rw [gt.1] at nt
    rw [ga.1] at na
    rw [gb.1] at nb
    have gt := gt.1
    have ga := ga.1
    have gb := gb.1
    generalize litP T id = t at *
    generalize litP T (ndAt T id).a0 = a at *
    generalize litP T (ndAt T id).a1 = b at *
    simp only [List.mem_cons, List.not_mem_nil, or_false] at hc
    rcases va with va | va <;> rcases vb with vb | vb <;> rw [va, vb] at vt <;> rw [va] at na ga <;> rw [vb] at nb gb <;> rw [vt] at nt gt <;> rcases hc with rfl | rfl | rfl <;> simp [gt, ga, gb, nt, na, nb]
  split at hc
  · rename_i ho
    obtain ⟨s0, s1, s2⟩ := srt_and h h0 h1 (.inr ho)
    obtain ⟨⟨p0, p1⟩, q0, q1⟩ := hst.two (.inr (.inr (.inr ho)))
    have gt := litP_on h hv h0 h1 s0
    have ga := litP_on h hv p0 (by omega) s1
    have gb := litP_on h hv q0 (by omega) s2
    have nt := onV_neg (litP_in h h0 h1 s0).1 gt.2
    have na := onV_neg (litP_in h p0 (by omega) s1).1 ga.2
    have nb := onV_neg (litP_in h q0 (by omega) s2).1 gb.2
    have va := hv.bool _ p0 (by omega) s1
    have vb := hv.bool _ q0 (by omega) s2
    have hmax : max (0 : Int) 0 = 0 ∧ max (0 : Int) 1 = 1 ∧ max (1 : Int) 0 = 1 ∧ max (1 : Int) 1 = 1 := by decide
    have vt := hv.or id h0 h1 ho
    rw [gt.1] at nt
    rw [ga.1] at na
    rw [gb.1] at nb
    have gt := gt.1
    have ga := ga.1
    have gb := gb.1
    generalize litP T id = t at *
    generalize litP T (ndAt T id).a0 = a at *
    generalize litP T (ndAt T id).a1 = b at *
    simp only [List.mem_cons, List.not_mem_nil, or_false] at hc
    rcases va with va | va <;> rcases vb with vb | vb <;> rw [va, vb] at vt <;> simp only [hmax.1, hmax.2.1, hmax.2.2.1, hmax.2.2.2] at vt <;> rw [va] at na ga <;> rw [vb] at nb gb <;> rw [vt] at nt gt <;> rcases hc with rfl | rfl | rfl <;> simp [gt, ga, gb, nt, na, nb]
  split at hc
  · rename_i ho
    split at hc
    rotate_left
    · cases hc
    rename_i hs
    obtain ⟨s0, s1⟩ := srt_eq h h0 h1 ho
    obtain ⟨⟨p0, p1⟩, q0, q1⟩ := hst.two (.inl ho)
    have s2 : (ndAt T (ndAt T id).a1).sort = 0 := by rw [← s1]; exact hs
    have gt := litP_on h hv h0 h1 s0
    have ga := litP_on h hv p0 (by omega) hs
    have gb := litP_on h hv q0 (by omega) s2
    have nt := onV_neg (litP_in h h0 h1 s0).1 gt.2
    have na := onV_neg (litP_in h p0 (by omega) hs).1 ga.2
    have nb := onV_neg (litP_in h q0 (by omega) s2).1 gb.2
    have va := hv.bool _ p0 (by omega) hs
    have vb := hv.bool _ q0 (by omega) s2
    have vt := hv.eq id h0 h1 ho
    unfold bitI at vt
    rw [gt.1] at nt
    rw [ga.1] at na
    rw [gb.1] at nb
    have gt := gt.1
    have ga := ga.1
    have gb := gb.1
    generalize litP T id = t at *
    generalize litP T (ndAt T id).a0 = a at *
    generalize litP T (ndAt T id).a1 = b at *
    simp only [List.mem_cons, List.not_mem_nil, or_false] at hc
    rcases va with va | va <;> rcases vb with vb | vb <;> rw [va, vb] at vt <;> simp only [if_true, if_false, show ¬ (0 : Int) = 1 by decide, show ¬ (1 : Int) = 0 by decide] at vt <;> rw [va] at na ga <;> rw [vb] at nb gb <;> rw [vt] at nt gt <;> rcases hc with rfl | rfl | rfl | rfl <;> simp [gt, ga, gb, nt, na, nb]
  split at hc
  · rename_i ho
    obtain ⟨s0, s1, s2⟩ := srt_ite h h0 h1 ho
    have hl := hst.len_of (lo := 3) (by rw [ho]; decide)
    have p0 : 0 ≤ (ndAt T id).a0 ∧ (ndAt T id).a0 < id := hst.arg_lt 0 (by omega) (by rw [hl]; decide)
    have p1 : 0 ≤ (ndAt T id).a1 ∧ (ndAt T id).a1 < id := hst.arg_lt 1 (by omega) (by rw [hl]; decide)
    have p2 : 0 ≤ (ndAt T id).a2 ∧ (ndAt T id).a2 < id := hst.arg_lt 2 (by omega) (by rw [hl]; decide)
    have ga := litP_on h hv p0.1 (by omega) s0
    have na := onV_neg (litP_in h p0.1 (by omega) s0).1 ga.2
    have va := hv.bool _ p0.1 (by omega) s0
    have vt := hv.ite id h0 h1 ho
    rw [ga.1] at na
    have ga := ga.1
    split at hc
    · rename_i hs
      have gt := litP_on h hv h0 h1 hs
      have gb := litP_on h hv p1.1 (by omega) (by rw [s1, hs])
      have gc := litP_on h hv p2.1 (by omega) (by rw [s2, hs])
      have nt := onV_neg (litP_in h h0 h1 hs).1 gt.2
      have nb := onV_neg (litP_in h p1.1 (by omega) (by rw [s1, hs])).1 gb.2
      have nc := onV_neg (litP_in h p2.1 (by omega) (by rw [s2, hs])).1 gc.2
      have vb := hv.bool _ p1.1 (by omega) (by rw [s1, hs])
      have vc := hv.bool _ p2.1 (by omega) (by rw [s2, hs])
      rw [gt.1] at nt
      rw [gb.1] at nb
      rw [gc.1] at nc
      have gt := gt.1
      have gb := gb.1
      have gc := gc.1
      generalize litP T id = t at *
      generalize litP T (ndAt T id).a0 = a at *
      generalize litP T (ndAt T id).a1 = b at *
      generalize litP T (ndAt T id).a2 = d at *
      simp only [List.mem_cons, List.not_mem_nil, or_false] at hc
      rcases va with va | va <;> rcases vb with vb | vb <;> rcases vc with vc | vc <;> rw [va, vb, vc] at vt <;> simp only [if_true, if_false, show ¬ (0 : Int) = 1 by decide] at vt <;> rw [va] at na ga <;> rw [vb] at nb gb <;> rw [vc] at nc gc <;> rw [vt] at nt gt <;> rcases hc with rfl | rfl | rfl | rfl <;> simp [gt, ga, gb, gc, nt, na, nb, nc]
    · rename_i hs
      obtain ⟨idN, rfl⟩ : ∃ n : Nat, id = n := ⟨id.toNat, by omega⟩
      have hget : T[idN]? = some (ndAt T (idN : Int)) := by rw [ndAt_nat (by omega)]; exact List.getElem?_eq_getElem (by omega)
      obtain ⟨k1, k2⟩ := hI idN _ hget ho
      split at hc
      · rename_i hs1
        have hx : Shd T idN := ⟨h0, h1, hs1⟩
        have hy1 : Shd T (ndAt T (idN : Int)).a1 := ⟨p1.1, by omega, by rw [s1, hs1]⟩
        have hy2 : Shd T (ndAt T (idN : Int)).a2 := ⟨p2.1, by omega, by rw [s2, hs1]⟩
        have bi := (base_ne h (i := (idN : Int)) (a := (ndAt T (idN : Int)).a0) ⟨h0, h1⟩ ho p0).1
        obtain ⟨m1, m2, m3⟩ := k1.1 hs1
        obtain ⟨m4, m5, m6⟩ := k2.1 hs1
        have d1 := dif_on h hv hx hy1 (by rw [bi]; exact m2)
        have d2 := dif_on h hv hy1 hx (by rw [bi]; exact m3)
        have d3 := dif_on h hv hx hy2 (by rw [bi]; exact m5)
        have d4 := dif_on h hv hy2 hx (by rw [bi]; exact m6)
        generalize litP T (ndAt T (idN : Int)).a0 = a at *
        simp only [List.mem_cons, List.not_mem_nil, or_false] at hc
        rcases va with va | va
        · rw [va, if_neg (by decide)] at vt
          rw [va] at na ga
          rcases hc with rfl | rfl | rfl | rfl
          · exact ⟨negL a, by simp, na.2 (by decide)⟩
          · exact ⟨negL a, by simp, na.2 (by decide)⟩
          · exact ⟨_, by simp, d3.2 (by omega)⟩
          · exact ⟨_, by simp, d4.2 (by omega)⟩
        · rw [va, if_pos rfl] at vt
          rw [va] at na ga
          rcases hc with rfl | rfl | rfl | rfl
          · exact ⟨_, by simp, d1.2 (by omega)⟩
          · exact ⟨_, by simp, d2.2 (by omega)⟩
          · exact ⟨a, by simp, ga.2 rfl⟩
          · exact ⟨a, by simp, ga.2 rfl⟩
      · rename_i hs1
        have d1 := same_on hv (k1.2 hs hs1)
        have d2 := same_on hv (k2.2 hs hs1)
        generalize litP T (ndAt T (idN : Int)).a0 = a at *
        simp only [List.mem_cons, List.not_mem_nil, or_false] at hc
        rcases va with va | va
        · rw [va, if_neg (by decide)] at vt
          rw [va] at na ga
          rcases hc with rfl | rfl
          · exact ⟨negL a, by simp, na.2 (by decide)⟩
          · exact ⟨_, by simp, d2.2 vt⟩
        · rw [va, if_pos rfl] at vt
          rw [va] at na ga
          rcases hc with rfl | rfl
          · exact ⟨_, by simp, d1.2 vt⟩
          · exact ⟨a, by simp, ga.2 rfl⟩
  · cases hc
end Go.Proofs.YtlipnnibagidiaaGreat

/- The plain side of ShareNumbers and ShareHolds. -/
namespace Go.Proofs.YtlipnnibagidiaaGreat

/-- A node's number: its base's, and its offset. -/
def numV (nums : Int → Int) (T : List Nd) (x : Int) : Int := (if (baseT T x).1 = 1 then 0 else nums (baseT T x).1) + (baseT T x).2
/-- The assignment that numbers make. -/
def asgN (nums : Int → Int) (T : List Nd) (i : Int) : Int :=
  if (ndAt T i).op = 12 ∧ numV nums T (ndAt T i).a0 - numV nums T (ndAt T i).a1 ≤ (ndAt T i).num then 1
  else if (ndAt T i).op = 6 ∧ (ndAt T (ndAt T i).a0).sort = 1 ∧ numV nums T (ndAt T i).a0 = numV nums T (ndAt T i).a1 then 1 else 2
theorem base_base {T : List Nd} (hc : CoreT T) (hs : SumT T) {x : Int} (hx : Shd T x) : baseT T (baseT T x).1 = ((baseT T x).1, 0) := by
  have h := (base_own hc hs hx)
  have ho := h.1
  unfold ownB at ho
  simp only [Bool.and_eq_true, decide_eq_true_eq] at ho
  generalize (baseT T x).1 = b at *
  have h1 := ho.1
  unfold baseT at h1 ⊢
  by_cases h11 : (ndAt T b).op = 11
  · rw [if_pos h11] at h1
    obtain ⟨k, hk, hkn, hst⟩ := hc.ok.stands (ndAt_mem h.2.1 h.2.2.1)
    have ha := hst.one (.inr h11)
    have h1' : (ndAt T b).a0 = b := h1
    have hkb : (k : Int) = b := by
      obtain ⟨bn, rfl⟩ : ∃ n : Nat, b = n := ⟨b.toNat, by omega⟩
      rw [ndAt_nat (by omega)] at hkn
      obtain ⟨_, e2⟩ := List.getElem?_eq_some_iff.1 hkn
      have := (List.getElem_inj (i := k) (j := bn) (h₀ := hk) (h₁ := by omega) hc.ok.once).1 e2
      omega
    omega
  · rw [if_neg h11] at h1 ⊢
    by_cases h10 : (ndAt T b).op = 10
    · rw [if_pos h10] at h1 ⊢
      have h1' : (1 : Int) = b := h1
      rw [← h1', show ndAt T 1 = zeroNd from ndAt_some (i := 1) hc.ok.t1]
      rfl
    · rw [if_neg h10]
theorem numV_base {nums : Int → Int} {T : List Nd} (hc : CoreT T) (hs : SumT T) {x : Int} (hx : Shd T x) : numV nums T x = numV nums T (baseT T x).1 + (baseT T x).2 := by
  unfold numV
  rw [base_base hc hs hx]
  simp
theorem idx_at {T : List Nd} {n : Nd} (h : n ∈ T) : ndAt T (T.idxOf n : Nat) = n := by
  have hl := List.idxOf_lt_length_iff.2 h
  rw [ndAt_nat hl]
  simp
/-- Numbers of bases: the clauses hold. -/
theorem numbers_hold {T T' : List Nd} (hc : CoreT T) (hs : SumT T) {most : Int} (he : (putS T most).e = 0) (hT : (putS T most).T = T') (nums : Int → Int) : clsOn (asgN nums T') (allT T') := by
  rcases putS_is hc hs most with ⟨_, g, l, hl⟩ | ⟨h, _⟩
  rotate_left
  · rw [he] at h
    rcases h with h | h <;> cases h
  rw [hT] at g l
  have e := nodesT_grew g
  have hs' := hs.grew g hc
  refine all_hold (val := numV nums T') (by rw [e]; exact l) (fun x hx => numV_base g.core hs' (mem_nodes hx).1) (fun x y hx hy hb => base_inj g.core (mem_nodes hx).1 (mem_nodes hy).1 hb) (fun i => ?_) (fun x y hx hy hxy hm => ?_) (fun b c d hm => ?_)
  · unfold asgN
    split
    · exact .inl rfl
    · split
      · exact .inl rfl
      · exact .inr rfl
  · have h1 := idx_at hm
    have h2 := (mem_nodes hx).1.sort
    unfold asgN
    rw [h1]
    have e6 : (eqNd x y).op = 6 := rfl
    have ea : (eqNd x y).a0 = x := rfl
    have eb : (eqNd x y).a1 = y := rfl
    rw [e6, ea, eb, if_neg (by rintro ⟨h, _⟩; exact absurd h (by decide))]
    by_cases hv : numV nums T' x = numV nums T' y
    · rw [if_pos ⟨rfl, h2, hv⟩]
      exact ⟨fun _ => hv, fun _ => rfl⟩
    · rw [if_neg (fun h => hv h.2.2)]
      exact ⟨fun h => absurd h (by decide), fun h => absurd h hv⟩
  · have h1 := idx_at hm
    unfold asgN
    rw [h1]
    have e6 : (diffNd b c d).op = 12 := rfl
    have ea : (diffNd b c d).a0 = b := rfl
    have eb : (diffNd b c d).a1 = c := rfl
    have ed : (diffNd b c d).num = d := rfl
    rw [e6, ea, eb, ed]
    by_cases hv : numV nums T' b - numV nums T' c ≤ d
    · rw [if_pos ⟨rfl, hv⟩]
      exact ⟨fun _ => hv, fun _ => rfl⟩
    · rw [if_neg (fun h => hv h.2), if_neg (by rintro ⟨h, _⟩; exact absurd h (by decide))]
      exact ⟨fun h => absurd h (by decide), fun h => absurd h hv⟩
/-- What of a world's values the clauses of shared nodes want. -/
structure SemI (T : List Nd) (val : Int → Int) : Prop where
  eq : ∀ i : Int, 0 ≤ i → i < T.length → (ndAt T i).op = 6 → val i = bitI (val (ndAt T i).a0 = val (ndAt T i).a1)
  num : ∀ i : Int, 0 ≤ i → i < T.length → (ndAt T i).op = 10 → val i = (ndAt T i).num
  add : ∀ i : Int, 0 ≤ i → i < T.length → (ndAt T i).op = 11 → val i = val (ndAt T i).a0 + (ndAt T i).num
  diff : ∀ i : Int, 0 ≤ i → i < T.length → (ndAt T i).op = 12 → val i = bitI (val (ndAt T i).a0 - val (ndAt T i).a1 ≤ (ndAt T i).num)
theorem bitI_cases (p : Prop) [Decidable p] : bitI p = 0 ∨ bitI p = 1 := by
  unfold bitI
  split
  · exact .inr rfl
  · exact .inl rfl
theorem semI_base {T : List Nd} (hc : CoreT T) {val : Int → Int} (hv : SemI T val) {x : Int} (hx : Shd T x) : val x = val (baseT T x).1 + (baseT T x).2 := by
  unfold baseT
  split
  · rename_i h11
    exact hv.add x hx.lo hx.hi h11
  · split
    · rename_i h10
      have h1 : ndAt T 1 = zeroNd := ndAt_some (i := 1) hc.ok.t1
      have hl := hc.ok.len
      have z := hv.num 1 (by decide) (by omega) (by rw [h1]; rfl)
      rw [h1] at z
      have z' : val 1 = 0 := z
      have := hv.num x hx.lo hx.hi h10
      show val x = val 1 + (ndAt T x).num
      omega
    · show val x = val x + 0
      omega
/-- In each world the clauses hold. -/
theorem worlds_hold {T T' : List Nd} (hc : CoreT T) (hs : SumT T) {most : Int} (he : (putS T most).e = 0) (hT : (putS T most).T = T') {val : Int → Int} (hv : SemI T' val) {a : Int → Int} (ha : ∀ i : Int, 0 ≤ i → i < T'.length → (ndAt T' i).sort = 0 → a i = 2 - val i) : ∀ c ∈ allT T', ∃ x ∈ c, litOn a x := by
  rcases putS_is hc hs most with ⟨_, g, l, hl⟩ | ⟨h, _⟩
  rotate_left
  · rw [he] at h
    rcases h with h | h <;> cases h
  rw [hT] at g l
  have e := nodesT_grew g
  have hs' := hs.grew g hc
  -- an assignment that is as a where it matters, and 1 or 2 elsewhere
  have key : clsOn (fun i => if a i = 1 then 1 else 2) (allT T') := by
    have two : ∀ n : Nd, n ∈ T' → n.op = 6 ∨ n.op = 12 → n.sort = 0 → (val (T'.idxOf n : Nat) = 0 ∨ val (T'.idxOf n : Nat) = 1) ∧ a (T'.idxOf n : Nat) = 2 - val (T'.idxOf n : Nat) := fun n hn ho h0 => by
      have hl := List.idxOf_lt_length_iff.2 hn
      have h1 := idx_at hn
      refine ⟨?_, ha _ (by omega) (by omega) (by rw [h1]; exact h0)⟩
      rcases ho with ho | ho
      · rw [hv.eq ((T'.idxOf n : Nat) : Int) (by omega) (by omega) (by rw [h1]; exact ho)]
        exact bitI_cases _
      · rw [hv.diff ((T'.idxOf n : Nat) : Int) (by omega) (by omega) (by rw [h1]; exact ho)]
        exact bitI_cases _
    refine all_hold (val := val) (by rw [e]; exact l) (fun x hx => semI_base g.core hv (mem_nodes hx).1) (fun x y hx hy hb => base_inj g.core (mem_nodes hx).1 (mem_nodes hy).1 hb) (fun i => ?_) (fun x y hx hy hxy hm => ?_) (fun b c d hm => ?_)
    · split
      · exact .inl rfl
      · exact .inr rfl
    · obtain ⟨v, ea⟩ := two _ hm (.inl rfl) rfl
      have hl := List.idxOf_lt_length_iff.2 hm
      have h1 := idx_at hm
      have hq := hv.eq ((T'.idxOf (eqNd x y) : Nat) : Int) (by omega) (by omega) (by rw [h1]; rfl)
      rw [h1] at hq
      have hq' : val (T'.idxOf (eqNd x y) : Nat) = bitI (val x = val y) := hq
      unfold bitI at hq'
      by_cases hxy' : val x = val y
      · rw [if_pos hxy'] at hq'
        simp [ea, hq', hxy']
      · rw [if_neg hxy'] at hq'
        simp [ea, hq', hxy']
    · obtain ⟨v, ea⟩ := two _ hm (.inr rfl) rfl
      have hl := List.idxOf_lt_length_iff.2 hm
      have h1 := idx_at hm
      have hq := hv.diff ((T'.idxOf (diffNd b c d) : Nat) : Int) (by omega) (by omega) (by rw [h1]; rfl)
      rw [h1] at hq
      have hq' : val (T'.idxOf (diffNd b c d) : Nat) = bitI (val b - val c ≤ d) := hq
      unfold bitI at hq'
      by_cases hxy' : val b - val c ≤ d
      · rw [if_pos hxy'] at hq'
        simp [ea, hq', hxy']
      · rw [if_neg hxy'] at hq'
        simp [ea, hq', hxy']
  intro c hcl
  obtain ⟨x, hx, hon⟩ := key c hcl
  refine ⟨x, hx, ?_⟩
  -- the literal's node is an equality or a difference
  have hnode : ∃ n ∈ T', (n.op = 6 ∨ n.op = 12) ∧ n.sort = 0 ∧ x / 2 = (T'.idxOf n : Nat) := by
    unfold allT at hcl
    obtain ⟨p, hp, hc2⟩ := List.mem_flatMap.1 hcl
    rw [e] at hp
    have hlp := l p hp
    unfold of2 at hc2
    rw [if_pos hlp.eq, if_pos hlp.may] at hc2
    have f0 := litT_half (T := T') (n := eqNd p.1 p.2)
    rcases hlp.dif with hb | ⟨hb, d1, d2⟩
    · rw [if_pos hb] at hc2
      simp at hc2
      subst hc2
      obtain rfl := List.mem_singleton.1 hx
      exact ⟨_, hlp.eq, .inl rfl, rfl, f0.2.2.1⟩
    · rw [if_neg hb, if_pos ⟨d1, d2⟩] at hc2
      have f1 := litT_half (T := T') (n := diffNd (baseT T' p.1).1 (baseT T' p.2).1 (difN T' p.1 p.2))
      have f2 := litT_half (T := T') (n := diffNd (baseT T' p.2).1 (baseT T' p.1).1 (difN T' p.2 p.1))
      simp only [Option.getD_some, List.mem_cons, List.not_mem_nil, or_false] at hc2
      rcases hc2 with rfl | rfl | rfl
      · have hx' := ((mem_make _ _).1 hx).1
        simp only [List.mem_cons, List.not_mem_nil, or_false] at hx'
        rcases hx' with rfl | rfl
        · exact ⟨_, hlp.eq, .inl rfl, rfl, f0.2.2.1⟩
        · exact ⟨_, d1, .inr rfl, rfl, f1.1⟩
      · have hx' := ((mem_make _ _).1 hx).1
        simp only [List.mem_cons, List.not_mem_nil, or_false] at hx'
        rcases hx' with rfl | rfl
        · exact ⟨_, hlp.eq, .inl rfl, rfl, f0.2.2.1⟩
        · exact ⟨_, d2, .inr rfl, rfl, f2.1⟩
      · have hx' := ((mem_make _ _).1 hx).1
        simp only [List.mem_cons, List.not_mem_nil, or_false] at hx'
        rcases hx' with rfl | rfl | rfl
        · exact ⟨_, hlp.eq, .inl rfl, rfl, f0.1⟩
        · exact ⟨_, d1, .inr rfl, rfl, f1.2.2.1⟩
        · exact ⟨_, d2, .inr rfl, rfl, f2.2.2.1⟩
  obtain ⟨n, hn, ho, h0, hxi⟩ := hnode
  have hl := List.idxOf_lt_length_iff.2 hn
  have h1 := idx_at hn
  have h2 := ha (x / 2) (by omega) (by omega) (by rw [hxi, h1]; exact h0)
  have hv2 : val (x / 2) = 0 ∨ val (x / 2) = 1 := by
    rcases ho with ho | ho
    · rw [hv.eq (x / 2) (by omega) (by omega) (by rw [hxi, h1]; exact ho)]
      exact bitI_cases _
    · rw [hv.diff (x / 2) (by omega) (by omega) (by rw [hxi, h1]; exact ho)]
      exact bitI_cases _
  unfold litOn at hon ⊢
  dsimp only at hon
  rcases hv2 with h | h
  · rw [h] at h2
    rw [if_neg (by omega)] at hon
    omega
  · rw [h] at h2
    rw [if_pos (by omega)] at hon
    omega
end Go.Proofs.YtlipnnibagidiaaGreat

/- gantrylaw26.number: a node's number, its base's and its offset. -/
namespace Go.Proofs.YtlipnnibagidiaaGreat
open Go.RowKit Go.Lib

/-- The numbers of bases, taken from a row. -/
def numF (L : List Int) (b : Int) : Int := L[(b % (L.length : Int)).toNat]?.getD 0
theorem numF_at {L : List Int} {b : Int} (hp : 0 < L.length) : 0 ≤ b % (L.length : Int) ∧ b % (L.length : Int) < (L.length : Int) ∧ ∃ h : (b % (L.length : Int)).toNat < L.length, numF L b = L[(b % (L.length : Int)).toNat] := by
  have h0 := Int.emod_nonneg b (show (L.length : Int) ≠ 0 by omega)
  have h1 := Int.emod_lt_of_pos b (show (0 : Int) < (L.length : Int) by omega)
  have h2 : (b % (L.length : Int)).toNat < L.length := by omega
  refine ⟨h0, h1, h2, ?_⟩
  unfold numF
  rw [List.getElem?_eq_getElem h2]
  rfl
theorem numF_le {L : List Int} (hb : ∀ x ∈ L, -1048576 ≤ x ∧ x ≤ 1048576) (b : Int) : -1048576 ≤ numF L b ∧ numF L b ≤ 1048576 := by
  unfold numF
  cases h : L[(b % (L.length : Int)).toNat]? with
  | none => exact ⟨by decide, by decide⟩
  | some v => exact hb v (List.mem_of_getElem? h)
set_option maxRecDepth 100000 in
set_option maxHeartbeats 2000000 in
theorem number_ok {T : List Nd} {w : World} {A NA : Option Addr} {L : List Int} (c nc : Nat) (h : Tab w A T) (hT : TabOk T) (ho : ordB T = true) {id : Int} (hid : Shd T id) (hb0 : 0 ≤ (baseT T id).1) (hN : Row w NA L) (hp : 0 < L.length) (hb : ∀ x ∈ L, -1048576 ≤ x ∧ x ≤ 1048576) (hn : -1099511627776 ≤ (baseT T id).2 ∧ (baseT T id).2 ≤ 1099511627776) :
    Calls Tryz.prog 35 #[.agg #[.slice A T.length c], .int .i64 id, .slice NA L.length nc] w (fun e w' => e = .returned (.int .i64 (numV (numF L) T id)) ∧ Below w.heap.size w w') := by
  have hlen := h.len
  have hl2 := hN.len
  have HB0 : Hid (Below w.heap.size w (w.alloc (.cells #[.slice A T.length c] 33))) := Lib.hid ((Below.refl _ w).alloc (Nat.le_refl _) _)
  have hi64 : In64 id := by have := hid.lo; have := hid.hi; unfold In64; omega
  have KO := rof_ok c id hi64 (h.below HB0.out) (fun _ => ho)
  rw [ofT_shd hT hid] at KO
  have HG : Hid (numV (numF L) T id = (if (baseT T id).1 = 1 then 0 else numF L (baseT T id).1) + (baseT T id).2) := Lib.hid rfl
  have KO := Lib.hid KO
  obtain ⟨b, hbq⟩ : ∃ b, (baseT T id).1 = b := ⟨_, rfl⟩
  obtain ⟨n, hnq⟩ : ∃ n, (baseT T id).2 = n := ⟨_, rfl⟩
  rw [hbq, hnq] at HG KO
  rw [hbq] at hb0
  rw [hnq] at hn
  have HN := Lib.hid hN
  obtain ⟨g0, g1, g2, g3⟩ := numF_at (b := b) hp
  have hle := numF_le hb b
  have HBn := Lib.hid hb
  clear h hT ho hid hN hi64 hbq hnq hb
  go_enter Tryz.func35, Tryz.ntmps35
  go_wp2_with fail
  refine KO.out.mono ?_
  rintro e w1 ⟨rfl, hb1⟩
  have HB1 := Lib.hid (HB0.out.trans (hb1.mono HB0.out.size))
  clear hb1
  by_cases h1 : b = 1
  · subst h1
    have HG1 : Hid (numV (numF L) T id = n) := Lib.hid (by rw [HG.out, if_pos rfl, Int.zero_add])
    clear g0 g1 g2 g3 hle hb0 HG
    go_wp2
    go_ret
    rw [HG1.out]
    exact ⟨rfl, HB1.out⟩
  · have e1 : (b == 1) = false := by simpa using h1
    have HG2 : Hid (numV (numF L) T id = numF L b + n) := Lib.hid (by rw [HG.out, if_neg h1])
    clear h1 HG
    obtain ⟨rb, roff, hRA, hrb, hrc⟩ := (HN.out.below HB1.out).at_.resolve_left (by omega)
    have y0 := hrc _ g2
    rw [← g3] at y0
    subst hRA
    obtain ⟨m, hm⟩ : ∃ m : Nat, b % (L.length : Int) = m := ⟨(b % (L.length : Int)).toNat, (Int.toNat_of_nonneg g0).symm⟩
    have hm2 : b.tmod (L.length : Int) = (m : Int) := by rw [Int.tmod_eq_emod_of_nonneg hb0, hm]
    rw [hm] at y0 g0 g1
    rw [Int.toNat_natCast] at y0
    have z0 : ((L.length : Int) == 0) = false := beq_eq_false_iff_ne.2 (by omega)
    obtain ⟨v, hv⟩ : ∃ v, numF L b = v := ⟨_, rfl⟩
    rw [hv] at y0 hle HG2
    have hw : IntKind.i64.wrap (m : Int) = m := by unfold IntKind.wrap; simp [IntKind.bits, IntKind.signed]; omega
    have hw2 : IntKind.i64.wrap (v + n) = v + n := by unfold IntKind.wrap; simp [IntKind.bits, IntKind.signed]; omega
    clear hrc g3 g2 hm hv
    go_wp2
    go_ret
    rw [HG2.out]
    exact ⟨rfl, HB1.out⟩
end Go.Proofs.YtlipnnibagidiaaGreat
