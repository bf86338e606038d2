/- The plain side of layer 12: core tables that are well sorted. -/
import Derived.Test.YtlipnnibagidiaaGreatMk
namespace Go.Proofs.YtlipnnibagidiaaGreat
def litT (T : List Nd) (n : Nd) : Int := 2 * (T.idxOf n : Nat)
theorem litT_half {T : List Nd} {n : Nd} : litT T n / 2 = (T.idxOf n : Nat) ∧ litT T n % 2 = 0 ∧ (litT T n + 1) / 2 = (T.idxOf n : Nat) ∧ (litT T n + 1) % 2 = 1 := by
  unfold litT
  omega
def of2 (T : List Nd) (x y : Int) : Option (List (List Int)) :=
  if eqNd x y ∈ T then
    if mayI (difN T x y) = true then
      if (baseT T x).1 = (baseT T y).1 then some [[litT T (eqNd x y) + 1]]
      else if diffNd (baseT T x).1 (baseT T y).1 (difN T x y) ∈ T ∧ diffNd (baseT T y).1 (baseT T x).1 (difN T y x) ∈ T then
        some [makeM [litT T (eqNd x y) + 1, litT T (diffNd (baseT T x).1 (baseT T y).1 (difN T x y))],
          makeM [litT T (eqNd x y) + 1, litT T (diffNd (baseT T y).1 (baseT T x).1 (difN T y x))],
          makeM [litT T (eqNd x y), litT T (diffNd (baseT T x).1 (baseT T y).1 (difN T x y)) + 1, litT T (diffNd (baseT T y).1 (baseT T x).1 (difN T y x)) + 1]]
      else none
    else none
  else none
theorem of2_laid {T : List Nd} {x y : Int} (h : LaidP T x y) : ∃ l, of2 T x y = some l ∧ (l.length = 1 ∨ l.length = 3) ∧ ∀ c ∈ l, litT T (eqNd x y) ∈ c ∨ litT T (eqNd x y) + 1 ∈ c := by
  unfold of2
  rw [if_pos h.eq, if_pos h.may]
  have h0 : 0 ≤ litT T (eqNd x y) := by unfold litT; omega
  rcases h.dif with hb | ⟨hb, h1, h2⟩
  · rw [if_pos hb]
    exact ⟨_, rfl, .inl rfl, fun c hc => by
      obtain rfl := List.mem_singleton.1 hc
      exact .inr (by simp)⟩
  · rw [if_neg hb, if_pos ⟨h1, h2⟩]
    refine ⟨_, rfl, .inr rfl, fun c hc => ?_⟩
    simp only [List.mem_cons, List.not_mem_nil, or_false] at hc
    rcases hc with rfl | rfl | rfl
    · exact .inr ((mem_make _ _).2 ⟨by simp, by omega⟩)
    · exact .inr ((mem_make _ _).2 ⟨by simp, by omega⟩)
    · exact .inl ((mem_make _ _).2 ⟨by simp, by omega⟩)
def eqsB (T : List Nd) : Bool := T.all fun n => decide (n.op = 6 ∧ (ndAt T n.a0).sort = 1 → n.a0 ∈ nodesT T ∧ n.a1 ∈ nodesT T)
def okB (T : List Nd) : Bool := (pairsL (nodesT T)).all fun p => (of2 T p.1 p.2).isSome
def laidB (T : List Nd) : Bool := coreB T && eqsB T && okB T
def allT (T : List Nd) : List (List Int) := (pairsL (nodesT T)).flatMap fun p => (of2 T p.1 p.2).getD []
def litOn (a : Int → Int) (x : Int) : Prop := a (x / 2) = 1 + x % 2
def clsOn (a : Int → Int) (l : List (List Int)) : Prop := ∀ c ∈ l, ∃ x ∈ c, litOn a x
theorem all_hold {T : List Nd} {a : Int → Int} {val : Int → Int}
    (hl : ∀ p ∈ pairsL (nodesT T), LaidP T p.1 p.2)
    (hv : ∀ x, x ∈ nodesT T → val x = val (baseT T x).1 + (baseT T x).2)
    (hone : ∀ x y, x ∈ nodesT T → y ∈ nodesT T → baseT T x = baseT T y → x = y)
    (h1 : ∀ i : Nat, a i = 1 ∨ a i = 2)
    (he : ∀ x y, x ∈ nodesT T → y ∈ nodesT T → x < y → eqNd x y ∈ T → (a (T.idxOf (eqNd x y) : Nat) = 1 ↔ val x = val y))
    (hd : ∀ b c d, diffNd b c d ∈ T → (a (T.idxOf (diffNd b c d) : Nat) = 1 ↔ val b - val c ≤ d)) : clsOn a (allT T) := by
  intro c hc
  unfold allT at hc
  obtain ⟨p, hp, hc⟩ := List.mem_flatMap.1 hc
  obtain ⟨x, y⟩ := p
  obtain ⟨m1, m2, hxy⟩ := (mem_pairs (nodes_sorted T)).1 hp
  have hlp := hl _ hp
  dsimp only at m1 m2 hxy hlp hc
  have hE := he x y m1 m2 hxy hlp.eq
  have vx := hv x m1
  have vy := hv y m2
  have e0 := litT_half (T := T) (n := eqNd x y)
  have g0 : 0 ≤ litT T (eqNd x y) := by unfold litT; omega
  have aE := h1 (T.idxOf (eqNd x y))
  unfold of2 at hc
  rw [if_pos hlp.eq, if_pos hlp.may] at hc
  rcases hlp.dif with hb | ⟨hb, d1, d2⟩
  · rw [if_pos hb] at hc
    simp at hc
    subst hc
    refine ⟨_, List.mem_singleton.2 rfl, ?_⟩
    unfold litOn
    rw [e0.2.2.1, e0.2.2.2]
    rcases aE with h | h
    · have h2 := hE.1 h
      rw [vx, vy, hb] at h2
      have h3 : (baseT T x).2 = (baseT T y).2 := by omega
      have := hone x y m1 m2 (Prod.ext hb h3)
      omega
    · exact h
  · rw [if_neg hb, if_pos ⟨d1, d2⟩] at hc
    have hP := hd _ _ _ d1
    have hQ := hd _ _ _ d2
    have aP := h1 (T.idxOf (diffNd (baseT T x).1 (baseT T y).1 (difN T x y)))
    have aQ := h1 (T.idxOf (diffNd (baseT T y).1 (baseT T x).1 (difN T y x)))
    have p0 := litT_half (T := T) (n := diffNd (baseT T x).1 (baseT T y).1 (difN T x y))
    have q0 := litT_half (T := T) (n := diffNd (baseT T y).1 (baseT T x).1 (difN T y x))
    have gp : 0 ≤ litT T (diffNd (baseT T x).1 (baseT T y).1 (difN T x y)) := by unfold litT; omega
    have gq : 0 ≤ litT T (diffNd (baseT T y).1 (baseT T x).1 (difN T y x)) := by unfold litT; omega
    have w1 : difN T x y = (baseT T y).2 - (baseT T x).2 := rfl
    have w2 : difN T y x = (baseT T x).2 - (baseT T y).2 := rfl
    generalize litT T (eqNd x y) = le at *
    generalize litT T (diffNd (baseT T x).1 (baseT T y).1 (difN T x y)) = lp at *
    generalize litT T (diffNd (baseT T y).1 (baseT T x).1 (difN T y x)) = lq at *
    simp only [Option.getD_some, List.mem_cons, List.not_mem_nil, or_false] at hc
    by_cases hval : val x = val y
    · have tE := hE.2 hval
      have tP := hP.2 (by omega)
      have tQ := hQ.2 (by omega)
      rcases hc with rfl | rfl | rfl
      · exact ⟨lp, (mem_make _ _).2 ⟨by simp, gp⟩, by unfold litOn; rw [p0.1, p0.2.1, tP]; rfl⟩
      · exact ⟨lq, (mem_make _ _).2 ⟨by simp, gq⟩, by unfold litOn; rw [q0.1, q0.2.1, tQ]; rfl⟩
      · exact ⟨le, (mem_make _ _).2 ⟨by simp, g0⟩, by unfold litOn; rw [e0.1, e0.2.1, tE]; rfl⟩
    · have tE : a (T.idxOf (eqNd x y) : Nat) = 2 := aE.resolve_left fun h => hval (hE.1 h)
      rcases hc with rfl | rfl | rfl
      · exact ⟨le + 1, (mem_make _ _).2 ⟨by simp, by omega⟩, by unfold litOn; rw [e0.2.2.1, e0.2.2.2, tE]; rfl⟩
      · exact ⟨le + 1, (mem_make _ _).2 ⟨by simp, by omega⟩, by unfold litOn; rw [e0.2.2.1, e0.2.2.2, tE]; rfl⟩
      · rcases aP with tP | tP
        · rcases aQ with tQ | tQ
          · exfalso
            have := hP.1 tP
            have := hQ.1 tQ
            omega
          · exact ⟨lq + 1, (mem_make _ _).2 ⟨by simp, by omega⟩, by unfold litOn; rw [q0.2.2.1, q0.2.2.2, tQ]; rfl⟩
        · exact ⟨lp + 1, (mem_make _ _).2 ⟨by simp, by omega⟩, by unfold litOn; rw [p0.2.2.1, p0.2.2.2, tP]; rfl⟩
theorem base_inj {T : List Nd} (hc : CoreT T) {x y : Int} (hx : Shd T x) (hy : Shd T y) (h : baseT T x = baseT T y) : x = y := by
  have one : ∀ i j : Int, 0 ≤ i → i < T.length → 0 ≤ j → j < T.length → ndAt T i = ndAt T j → i = j := fun i j h1 h2 h3 h4 e => by
    obtain ⟨i, rfl⟩ : ∃ k : Nat, i = k := ⟨i.toNat, by omega⟩
    obtain ⟨j, rfl⟩ : ∃ k : Nat, j = k := ⟨j.toNat, by omega⟩
    rw [ndAt_nat (by omega), ndAt_nat (by omega)] at e
    have := (List.getElem_inj (i := i) (j := j) (h₀ := by omega) (h₁ := by omega) hc.ok.once).1 e
    omega
  have sh : ∀ z, Shd T z → ((ndAt T z).op = 11 ∧ baseT T z = ((ndAt T z).a0, (ndAt T z).num) ∧ (ndAt T z).num ≠ 0 ∧ (ndAt T (ndAt T z).a0).op ≠ 10 ∧ ndAt T z = ⟨11, 1, (ndAt T z).a0, 0, 0, 1, 0, (ndAt T z).num⟩) ∨ ((ndAt T z).op = 10 ∧ baseT T z = (1, (ndAt T z).num) ∧ ndAt T z = ⟨10, 0, 0, 0, 0, 1, 0, (ndAt T z).num⟩) ∨ ((ndAt T z).op ≠ 11 ∧ (ndAt T z).op ≠ 10 ∧ baseT T z = (z, 0)) := fun z hz => by
    have hm := ndAt_mem hz.lo hz.hi
    obtain ⟨i, hi, _, hst⟩ := hc.ok.stands hm
    have hs := hz.sort
    by_cases h11 : (ndAt T z).op = 11
    · have ho := hc.ord _ hm h11
      have hl := hst.len_of (lo := 1) (by rw [h11]; decide)
      have a1 := (hst.args 1 (by omega)).2 (by rw [hl]; decide)
      have a2 := (hst.args 2 (by omega)).2 (by rw [hl]; decide)
      have hf : (ndAt T z).fn = 0 := Classical.byContradiction fun hn => by
        have := hst.fun_.2.2 (by have := hst.fun_.1; omega)
        omega
      refine .inl ⟨h11, by unfold baseT; rw [if_pos h11], ho.1, ho.2.2, ?_⟩
      generalize ndAt T z = n at *
      obtain ⟨o, l, x0, x1, x2, s, f, m⟩ := n
      simp only [Nd.arg] at a1 a2
      simp at h11 hl a1 a2 hs hf
      subst h11 hl a1 a2 hs hf
      rfl
    · by_cases h10 : (ndAt T z).op = 10
      · have hl := hst.len_of (lo := 0) (by rw [h10]; decide)
        have a0 := (hst.args 0 (by omega)).2 (by rw [hl]; decide)
        have a1 := (hst.args 1 (by omega)).2 (by rw [hl]; decide)
        have a2 := (hst.args 2 (by omega)).2 (by rw [hl]; decide)
        have hf : (ndAt T z).fn = 0 := Classical.byContradiction fun hn => by
          have := hst.fun_.2.2 (by have := hst.fun_.1; omega)
          omega
        refine .inr (.inl ⟨h10, by unfold baseT; rw [if_neg h11, if_pos h10], ?_⟩)
        generalize ndAt T z = n at *
        obtain ⟨o, l, x0, x1, x2, s, f, m⟩ := n
        simp only [Nd.arg] at a0 a1 a2
        simp at h10 hl a0 a1 a2 hs hf
        subst h10 hl a0 a1 a2 hs hf
        rfl
      · exact .inr (.inr ⟨h11, h10, by unfold baseT; rw [if_neg h11, if_neg h10]⟩)
  have z1 : (ndAt T 1).op = 10 := by
    rw [show ndAt T 1 = zeroNd from ndAt_some (i := 1) hc.ok.t1]
    rfl
  rcases sh x hx with ⟨x1, x2, x3, x4, x5⟩ | ⟨x1, x2, x3⟩ | ⟨x1, x2, x3⟩ <;> rcases sh y hy with ⟨y1, y2, y3, y4, y5⟩ | ⟨y1, y2, y3⟩ | ⟨y1, y2, y3⟩
  · rw [x2, y2] at h
    injection h with e1 e2
    exact one x y hx.lo hx.hi hy.lo hy.hi (by rw [x5, y5, e1, e2])
  · rw [x2, y2] at h
    injection h with e1 e2
    rw [e1] at x4
    exact absurd z1 x4
  · rw [x2, y3] at h
    injection h with e1 e2
    exact absurd e2 x3
  · rw [x2, y2] at h
    injection h with e1 e2
    rw [← e1] at y4
    exact absurd z1 y4
  · rw [x2, y2] at h
    injection h with e1 e2
    exact one x y hx.lo hx.hi hy.lo hy.hi (by rw [x3, y3, e2])
  · rw [x2, y3] at h
    injection h with e1 e2
    rw [← e1] at y2
    exact absurd z1 y2
  · rw [x3, y2] at h
    injection h with e1 e2
    exact absurd e2.symm y3
  · rw [x3, y2] at h
    injection h with e1 e2
    rw [e1] at x2
    exact absurd z1 x2
  · rw [x3, y3] at h
    injection h with e1 e2
end Go.Proofs.YtlipnnibagidiaaGreat
namespace Go.Proofs.YtlipnnibagidiaaGreat
theorem putT_mem {T : List Nd} {n m : Nd} {most : Int} (h : m ∈ (putT T n most).T) : m ∈ T ∨ m = n := by
  unfold putT at h
  split at h
  · split at h
    · exact .inl h
    · split at h
      · cases h
      · exact (List.mem_append.1 h).imp id fun h => List.mem_singleton.1 h
  · cases h
theorem putT_len (T : List Nd) (n : Nd) (most : Int) : (putT T n most).T.length ≤ T.length + 1 := by
  unfold putT
  split
  · split
    · exact Nat.le_succ _
    · split
      · exact Nat.zero_le _
      · simp
  · exact Nat.zero_le _
theorem leT_mem {T : List Nd} {a b c most : Int} {m : Nd} (h : m ∈ (leT T a b c most).T) : m ∈ T ∨ m.op ≠ 6 := by
  unfold leT at h
  split at h
  · cases h
  · split at h
    · rcases putT_mem h with h | rfl
      · exact .inl h
      · exact .inr (by show (12 : Int) ≠ 6; decide)
    · split at h
      · exact .inl h
      · rcases putT_mem h with h | rfl
        · exact .inl h
        · exact .inr (by show (1 : Int) ≠ 6; decide)
theorem leT_len (T : List Nd) (a b c most : Int) : (leT T a b c most).T.length ≤ T.length + 1 := by
  unfold leT
  split
  · exact Nat.zero_le _
  · split
    · exact putT_len _ _ _
    · split
      · exact Nat.le_succ _
      · exact putT_len _ _ _
theorem layT_mem {T : List Nd} {x y most : Int} {m : Nd} (h : m ∈ (layT T x y most).T) : m ∈ T ∨ m = eqNd x y ∨ m.op ≠ 6 := by
  unfold layT at h
  split at h
  · cases h
  · split at h
    · cases h
    · split at h
      · exact (putT_mem h).imp id .inl
      · split at h
        · cases h
        · rcases leT_mem h with h | h
          · rcases leT_mem h with h | h
            · exact (putT_mem h).imp id .inl
            · exact .inr (.inr h)
          · exact .inr (.inr h)
theorem laysT_mem {most : Int} {m : Nd} : ∀ {ps : List (Int × Int)} {T : List Nd}, m ∈ (laysT ps T most).T → m ∈ T ∨ (∃ p ∈ ps, m = eqNd p.1 p.2) ∨ m.op ≠ 6
  | [], T, h => .inl h
  | p :: r, T, h => by
    rw [laysT] at h
    split at h
    · cases h
    · rcases laysT_mem h with h | ⟨q, hq, h⟩ | h
      · rcases layT_mem h with h | h | h
        · exact .inl h
        · exact .inr (.inl ⟨p, by simp, h⟩)
        · exact .inr (.inr h)
      · exact .inr (.inl ⟨q, List.mem_cons_of_mem _ hq, h⟩)
      · exact .inr (.inr h)
theorem pairsL_len : ∀ l : List Int, 2 * (pairsL l).length = l.length * (l.length - 1)
  | [] => rfl
  | x :: r => by
    have h := pairsL_len r
    rw [pairsL, List.length_append, List.length_map, List.length_cons, Nat.add_sub_cancel, Nat.mul_add, h]
    cases hr : r.length with
    | zero => rfl
    | succ k =>
      rw [Nat.add_sub_cancel, Nat.mul_comm (k + 1) k, ← Nat.add_mul]
      congr 1
      omega
theorem putS_laid {T : List Nd} (hc : CoreT T) (hs : SumT T) {most : Int} (hn : ∀ n ∈ T, n.op = 6 → (ndAt T n.a0).sort ≠ 1) (he : (putS T most).e = 0) : laidB (putS T most).T = true := by
  rcases putS_is hc hs most with ⟨_, g, l, hl⟩ | ⟨h, _⟩
  rotate_left
  · rw [he] at h
    rcases h with h | h <;> cases h
  have hmem : ∀ m ∈ (putS T most).T, m ∈ T ∨ (∃ p ∈ pairsL (nodesT T), m = eqNd p.1 p.2) ∨ m.op ≠ 6 := fun m hm => by
    unfold putS at hm
    rw [if_pos (coreB_iff.2 hc), if_neg (by omega)] at hm
    exact laysT_mem hm
  have e := nodesT_grew g
  generalize (putS T most).T = T' at *
  unfold laidB
  rw [Bool.and_eq_true, Bool.and_eq_true]
  refine ⟨⟨coreB_iff.2 g.core, ?_⟩, ?_⟩
  · unfold eqsB
    rw [List.all_eq_true]
    intro n hn'
    rw [decide_eq_true_eq]
    rintro ⟨h6, h1⟩
    rcases hmem n hn' with h | ⟨p, hp, rfl⟩ | h
    · obtain ⟨i, hi, _, hst⟩ := hc.ok.stands h
      have ha := (hst.two (.inl h6)).1
      rw [g.at_ ha.1 (by omega)] at h1
      exact absurd h1 (hn n h h6)
    · obtain ⟨h2, h3, _⟩ := (mem_pairs (nodes_sorted T)).1 hp
      rw [e]
      exact ⟨h2, h3⟩
    · exact absurd h6 h
  · unfold okB
    rw [List.all_eq_true, e]
    intro p hp
    obtain ⟨x, hx, _⟩ := of2_laid (l p hp)
    rw [hx]
    rfl
end Go.Proofs.YtlipnnibagidiaaGreat
namespace Go.Proofs.YtlipnnibagidiaaGreat
def opSort (op s0 s1 s2 : Int) : Option Int :=
  if op = 0 then some 0 else if op = 10 then some 1 else if op = 11 then (if s0 = 1 then some 1 else none) else if op = 1 then (if s0 = 0 then some 0 else none)
  else if op = 2 ∨ op = 3 ∨ op = 4 ∨ op = 5 then (if s0 = 0 ∧ s1 = 0 then some 0 else none) else if op = 8 ∨ op = 9 ∨ op = 12 then (if s0 = 1 ∧ s1 = 1 then some 0 else none)
  else if op = 6 then (if s0 = s1 then some 0 else none) else if op = 7 then (if s0 = 0 ∧ s1 = s2 then some s1 else none) else none
def srtN (T : List Nd) (n : Nd) : Prop := n.op ≠ 13 → opSort n.op (ndAt T n.a0).sort (ndAt T n.a1).sort (ndAt T n.a2).sort = some n.sort
theorem arity_ops {n : Nd} {a : Int} (h : Stands n a) : n.op = 0 ∨ n.op = 1 ∨ n.op = 2 ∨ n.op = 3 ∨ n.op = 4 ∨ n.op = 5 ∨ n.op = 6 ∨ n.op = 7 ∨ n.op = 8 ∨ n.op = 9 ∨ n.op = 10 ∨ n.op = 11 ∨ n.op = 12 ∨ n.op = 13 := by
  obtain ⟨lo, hi, e, _⟩ := h.ar
  unfold arityM at e
  repeat' split at e
  all_goals first
    | omega
    | cases e
theorem srtN_append {T S : List Nd} {n : Nd} {a : Int} (hs : Stands n a) (ha : a ≤ T.length) : srtN (T ++ S) n ↔ srtN T n := by
  have key : ∀ j : Nat, j < 3 → (j : Int) < n.len → ndAt (T ++ S) (n.arg j) = ndAt T (n.arg j) := fun j hj hl => by
    have := hs.arg_lt j hj hl
    exact ndAt_append this.1 (by omega)
  have k0 : (0 : Int) < n.len → ndAt (T ++ S) n.a0 = ndAt T n.a0 := key 0 (by omega)
  have k1 : (1 : Int) < n.len → ndAt (T ++ S) n.a1 = ndAt T n.a1 := key 1 (by omega)
  have k2 : (2 : Int) < n.len → ndAt (T ++ S) n.a2 = ndAt T n.a2 := key 2 (by omega)
  unfold srtN
  have hl := fun lo => hs.len_of (lo := lo)
  rcases arity_ops hs with h | h | h | h | h | h | h | h | h | h | h | h | h | h
  all_goals rw [h] at hl ⊢
  · simp [opSort]
  · have := hl 1 (by decide)
    rw [k0 (by rw [this]; decide)]
    simp [opSort]
  · have := hl 2 (by decide)
    rw [k0 (by rw [this]; decide), k1 (by rw [this]; decide)]
    simp [opSort]
  · have := hl 2 (by decide)
    rw [k0 (by rw [this]; decide), k1 (by rw [this]; decide)]
    simp [opSort]
  · have := hl 2 (by decide)
    rw [k0 (by rw [this]; decide), k1 (by rw [this]; decide)]
    simp [opSort]
  · have := hl 2 (by decide)
    rw [k0 (by rw [this]; decide), k1 (by rw [this]; decide)]
    simp [opSort]
  · have := hl 2 (by decide)
    rw [k0 (by rw [this]; decide), k1 (by rw [this]; decide)]
    simp [opSort]
  · have := hl 3 (by decide)
    rw [k0 (by rw [this]; decide), k1 (by rw [this]; decide), k2 (by rw [this]; decide)]
  · have := hl 2 (by decide)
    rw [k0 (by rw [this]; decide), k1 (by rw [this]; decide)]
    simp [opSort]
  · have := hl 2 (by decide)
    rw [k0 (by rw [this]; decide), k1 (by rw [this]; decide)]
    simp [opSort]
  · simp [opSort]
  · have := hl 1 (by decide)
    rw [k0 (by rw [this]; decide)]
    simp [opSort]
  · have := hl 2 (by decide)
    rw [k0 (by rw [this]; decide), k1 (by rw [this]; decide)]
    simp [opSort]
  · simp
def noeqN (T : List Nd) (n : Nd) : Prop := n.op = 6 → (ndAt T n.a0).sort ≠ 1
theorem noeqN_append {T S : List Nd} {n : Nd} {a : Int} (hs : Stands n a) (ha : a ≤ T.length) : noeqN (T ++ S) n ↔ noeqN T n := by
  unfold noeqN
  by_cases h : n.op = 6
  · have := (hs.two (.inl h)).1
    rw [ndAt_append this.1 (by omega)]
  · simp [h]
structure Well (T : List Nd) : Prop where
  core : CoreT T
  srt : ∀ n ∈ T, srtN T n
  noeq : ∀ n ∈ T, noeqN T n
theorem Well.sum {T : List Nd} (h : Well T) : SumT T := fun n hn ho => by
  have h1 := h.srt n hn (by omega)
  rw [ho] at h1
  unfold opSort at h1
  simp at h1
  exact h1.1
theorem Well.push {T : List Nd} (h : Well T) {n : Nd} (hs : Stands n T.length) (hn : n ∉ T) (ho : ordN T n) (hf : fitB T n = true) (hr : srtN T n) (he : noeqN T n) : Well (T ++ [n]) := by
  refine ⟨h.core.push hs hn ho hf, fun m hm => ?_, fun m hm => ?_⟩
  · rcases List.mem_append.1 hm with hm | hm
    · obtain ⟨i, hi, _, hst⟩ := h.core.ok.stands hm
      exact (srtN_append hst (by omega)).2 (h.srt m hm)
    · obtain rfl := List.mem_singleton.1 hm
      exact (srtN_append hs (by omega)).2 hr
  · rcases List.mem_append.1 hm with hm | hm
    · obtain ⟨i, hi, _, hst⟩ := h.core.ok.stands hm
      exact (noeqN_append hst (by omega)).2 (h.noeq m hm)
    · obtain rfl := List.mem_singleton.1 hm
      exact (noeqN_append hs (by omega)).2 he
structure Ext (T T' : List Nd) : Prop where
  well : Well T'
  ext : ∃ S, T' = T ++ S
theorem Ext.refl {T : List Nd} (h : Well T) : Ext T T := ⟨h, [], by simp⟩
theorem Ext.trans {T T' T2 : List Nd} (h : Ext T T') (k : Ext T' T2) : Ext T T2 := by
  obtain ⟨S, rfl⟩ := h.ext
  obtain ⟨S2, rfl⟩ := k.ext
  exact ⟨k.well, S ++ S2, by rw [List.append_assoc]⟩
theorem Ext.len {T T' : List Nd} (h : Ext T T') : T.length ≤ T'.length := by
  obtain ⟨S, rfl⟩ := h.ext
  rw [List.length_append]
  omega
theorem Ext.at_ {T T' : List Nd} (h : Ext T T') {i : Int} (h0 : 0 ≤ i) (h1 : i < T.length) : ndAt T' i = ndAt T i := by
  obtain ⟨S, rfl⟩ := h.ext
  exact ndAt_append h0 h1
theorem Ext.mem {T T' : List Nd} (h : Ext T T') {n : Nd} (hn : n ∈ T) : n ∈ T' := by
  obtain ⟨S, rfl⟩ := h.ext
  exact List.mem_append.2 (.inl hn)
theorem putT_ext {T : List Nd} (h : Well T) {n : Nd} {most : Int} (ho : ordN T n) (hf : fitB T n = true) (hr : srtN T n) (hq : noeqN T n) (he : (putT T n most).e = 0) : Ext T (putT T n most).T ∧ n ∈ (putT T n most).T ∧ 0 ≤ (putT T n most).id ∧ (putT T n most).id < (putT T n most).T.length ∧ ndAt (putT T n most).T (putT T n most).id = n ∧ (∀ m ∈ (putT T n most).T, m ∈ T ∨ m = n) := by
  obtain ⟨_, hst, _, ⟨k, hid, hk⟩, _⟩ := putT_ok he
  have hmem : n ∈ (putT T n most).T := List.mem_of_getElem? hk
  have hlt := (List.getElem?_eq_some_iff.1 hk).1
  refine ⟨?_, hmem, by omega, by omega, by rw [hid]; exact ndAt_some hk, fun m hm => putT_mem hm⟩
  clear hid hk hlt hmem
  unfold putT at he ⊢
  by_cases h1 : (tabB T && standsB n T.length) = true
  · rw [if_pos h1] at he ⊢
    by_cases h2 : n ∈ T
    · rw [if_pos h2]
      exact .refl h
    · rw [if_neg h2] at he ⊢
      by_cases h3 : most ≤ (T.length : Int)
      · rw [if_pos h3] at he
        cases he
      · rw [if_neg h3]
        exact ⟨h.push hst h2 ho hf hr hq, [n], rfl⟩
  · rw [if_neg h1] at he
    cases he
def iteN (T : List Nd) (i : Int) (a : Int) (s : Int) : Prop :=
  (s = 1 → mayI (difN T i a) = true ∧ diffNd i (baseT T a).1 (difN T i a) ∈ T ∧ diffNd (baseT T a).1 i (difN T a i) ∈ T) ∧ (s ≠ 0 → s ≠ 1 → eqNd (min i a) (max i a) ∈ T)
def IteOk (T : List Nd) : Prop := ∀ (i : Nat) (n : Nd), T[i]? = some n → n.op = 7 → iteN T i n.a1 n.sort ∧ iteN T i n.a2 n.sort
end Go.Proofs.YtlipnnibagidiaaGreat
