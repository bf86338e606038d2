/- The plain side of layer 26: laying two, laying all. -/
import Derived.Test.YtlipnnibagidiaaGreatShS
import Derived.Lib.SlicesCompact
namespace Go.Proofs.YtlipnnibagidiaaGreat

theorem args3 {n : Nd} {a : Int} (h0 : ((0 : Int) < n.len → 0 ≤ n.a0 ∧ n.a0 < a) ∧ (n.len ≤ 0 → n.a0 = 0)) (h1 : ((1 : Int) < n.len → 0 ≤ n.a1 ∧ n.a1 < a) ∧ (n.len ≤ 1 → n.a1 = 0)) (h2 : ((2 : Int) < n.len → 0 ≤ n.a2 ∧ n.a2 < a) ∧ (n.len ≤ 2 → n.a2 = 0)) : ∀ j : Nat, j < 3 → ((j : Int) < n.len → 0 ≤ n.arg j ∧ n.arg j < a) ∧ (n.len ≤ j → n.arg j = 0) := by
  intro j hj
  match j, hj with
  | 0, _ => exact h0
  | 1, _ => exact h1
  | 2, _ => exact h2
theorem eq_stands {x y a : Int} (hx : 0 ≤ x ∧ x < a) (hy : 0 ≤ y ∧ y < a) : Stands (eqNd x y) a := by
  refine ⟨⟨2, 2, by show arityM 6 = _; decide, Int.le_refl _, Int.le_refl _⟩, by show (0 : Int) ≤ 0 ∧ (0 : Int) < 6; decide, args3 ⟨fun _ => hx, fun h => ?_⟩ ⟨fun _ => hy, fun h => ?_⟩ ⟨fun h => ?_, fun _ => rfl⟩, by show (0 : Int) ≤ 0 ∧ (0 : Int) < 12 ∧ _; exact ⟨by decide, by decide, fun h => absurd h (by show ¬ (0 : Int) < 0; decide)⟩, fun h => ?_, fun _ => rfl⟩
  · exact absurd h (by show ¬ (2 : Int) ≤ 0; decide)
  · exact absurd h (by show ¬ (2 : Int) ≤ 1; decide)
  · exact absurd h (by show ¬ (2 : Int) < 2; decide)
  · exact absurd h (by show ¬ ((6 : Int) = 10 ∨ (6 : Int) = 11 ∨ (6 : Int) = 12); decide)
theorem diff_stands {x y d a : Int} (hx : 0 ≤ x ∧ x < a) (hy : 0 ≤ y ∧ y < a) (hd : mayI d = true) : Stands (diffNd x y d) a := by
  refine ⟨⟨2, 2, by show arityM 12 = _; decide, Int.le_refl _, Int.le_refl _⟩, by show (0 : Int) ≤ 0 ∧ (0 : Int) < 6; decide, args3 ⟨fun _ => hx, fun h => ?_⟩ ⟨fun _ => hy, fun h => ?_⟩ ⟨fun h => ?_, fun _ => rfl⟩, by show (0 : Int) ≤ 0 ∧ (0 : Int) < 12 ∧ _; exact ⟨by decide, by decide, fun h => absurd h (by show ¬ (0 : Int) < 0; decide)⟩, fun _ => mayI_iff.1 hd, fun h => ?_⟩
  · exact absurd h (by show ¬ (2 : Int) ≤ 0; decide)
  · exact absurd h (by show ¬ (2 : Int) ≤ 1; decide)
  · exact absurd h (by show ¬ (2 : Int) < 2; decide)
  · exact absurd h (by show ¬ ¬ ((12 : Int) = 10 ∨ (12 : Int) = 11 ∨ (12 : Int) = 12); decide)
/-- What two shared nodes need is there. -/
structure LaidP (T : List Nd) (x y : Int) : Prop where
  eq : eqNd x y ∈ T
  may : mayI (difN T x y) = true
  dif : (baseT T x).1 = (baseT T y).1 ∨ ((baseT T x).1 ≠ (baseT T y).1 ∧ diffNd (baseT T x).1 (baseT T y).1 (difN T x y) ∈ T ∧ diffNd (baseT T y).1 (baseT T x).1 (difN T y x) ∈ T)
theorem baseT_grew {T T' : List Nd} (h : Grew T T') {x : Int} (hx : Shd T x) : baseT T' x = baseT T x := by
  obtain ⟨S, rfl, _⟩ := h.ext
  exact baseT_append hx.lo hx.hi
theorem difN_grew {T T' : List Nd} (h : Grew T T') {x y : Int} (hx : Shd T x) (hy : Shd T y) : difN T' x y = difN T x y := by
  unfold difN
  rw [baseT_grew h hx, baseT_grew h hy]
theorem Grew.mem {T T' : List Nd} (h : Grew T T') {n : Nd} (hn : n ∈ T) : n ∈ T' := by
  obtain ⟨S, rfl, _⟩ := h.ext
  exact List.mem_append.2 (.inl hn)
theorem LaidP.grew {T T' : List Nd} (h : Grew T T') {x y : Int} (hx : Shd T x) (hy : Shd T y) (hl : LaidP T x y) : LaidP T' x y := by
  refine ⟨h.mem hl.eq, by rw [difN_grew h hx hy]; exact hl.may, ?_⟩
  rw [baseT_grew h hx, baseT_grew h hy, difN_grew h hx hy, difN_grew h hy hx]
  exact hl.dif.imp id fun ⟨h0, h1, h2⟩ => ⟨h0, h.mem h1, h.mem h2⟩
theorem may_neg {T : List Nd} {x y : Int} (h : mayI (difN T x y) = true) : mayI (difN T y x) = true := by
  rw [mayI_iff] at h ⊢
  unfold difN at *
  omega
/-- Le of two shared nodes whose bases are unlike. -/
theorem leT_shd {T : List Nd} (hc : CoreT T) (hs : SumT T) {x y : Int} (hx : Shd T x) (hy : Shd T y) (most : Int) (hm : mayI (difN T x y) = true) (hb : (baseT T x).1 ≠ (baseT T y).1) :
    leT T x y 0 most = ⟨(putT T (diffNd (baseT T x).1 (baseT T y).1 (difN T x y)) most).T, (putT T (diffNd (baseT T x).1 (baseT T y).1 (difN T x y)) most).id, decide ((putT T (diffNd (baseT T x).1 (baseT T y).1 (difN T x y)) most).e = 0), (putT T (diffNd (baseT T x).1 (baseT T y).1 (difN T x y)) most).e⟩ := by
  have hd := diffT_shd hc hs hx hy
  rw [if_pos hm] at hd
  unfold leT
  simp only [hd]
  rw [if_neg (by simp), if_pos hb]
theorem diff_put {T : List Nd} (hc : CoreT T) (hs : SumT T) {x y : Int} (hx : Shd T x) (hy : Shd T y) (most : Int) (hm : mayI (difN T x y) = true) (hb : (baseT T x).1 ≠ (baseT T y).1) :
    ((putT T (diffNd (baseT T x).1 (baseT T y).1 (difN T x y)) most).e = 0 ∧ Grew T (putT T (diffNd (baseT T x).1 (baseT T y).1 (difN T x y)) most).T ∧ diffNd (baseT T x).1 (baseT T y).1 (difN T x y) ∈ (putT T (diffNd (baseT T x).1 (baseT T y).1 (difN T x y)) most).T) ∨
    ((putT T (diffNd (baseT T x).1 (baseT T y).1 (difN T x y)) most).e = 40 ∧ (putT T (diffNd (baseT T x).1 (baseT T y).1 (difN T x y)) most).T = []) := by
  have bx := base_own hc hs hx
  have hby := base_own hc hs hy
  have hst : Stands (diffNd (baseT T x).1 (baseT T y).1 (difN T x y)) T.length := diff_stands ⟨bx.2.1, bx.2.2.1⟩ ⟨hby.2.1, hby.2.2.1⟩ hm
  rcases putT_err (most := most) hc.ok hst with he | he
  · refine .inl ⟨he, putT_grew hc (fun h => absurd h (by show (12 : Int) ≠ 11; decide)) ?_ (by show (12 : Int) ≠ 13; decide) (by show (12 : Int) ≠ 11; decide) rfl he⟩
    show fitB T (diffNd _ _ _) = true
    unfold fitB diffNd
    simp [bx.1, hby.1, hb]
  · exact .inr he
theorem eq_put {T : List Nd} (hc : CoreT T) {x y : Int} (hx : Shd T x) (hy : Shd T y) (hxy : x < y) (most : Int) :
    ((putT T (eqNd x y) most).e = 0 ∧ Grew T (putT T (eqNd x y) most).T ∧ eqNd x y ∈ (putT T (eqNd x y) most).T) ∨ ((putT T (eqNd x y) most).e = 40 ∧ (putT T (eqNd x y) most).T = []) := by
  have hst : Stands (eqNd x y) T.length := eq_stands ⟨hx.lo, hx.hi⟩ ⟨hy.lo, hy.hi⟩
  rcases putT_err (most := most) hc.ok hst with he | he
  · refine .inl ⟨he, putT_grew hc (fun h => absurd h (by show (6 : Int) ≠ 11; decide)) ?_ (by show (6 : Int) ≠ 13; decide) (by show (6 : Int) ≠ 11; decide) rfl he⟩
    unfold fitB eqNd
    simp [hx.sort, hy.sort, hxy]
  · exact .inr he
/-- What laying of two comes to. -/
theorem layT_is {T : List Nd} (hc : CoreT T) (hs : SumT T) {x y : Int} (hx : Shd T x) (hy : Shd T y) (hxy : x < y) (most : Int) :
    ((layT T x y most).e = 0 ∧ Grew T (layT T x y most).T ∧ LaidP (layT T x y most).T x y) ∨ (((layT T x y most).e = 40 ∨ (layT T x y most).e = 10) ∧ (layT T x y most).T = []) := by
  unfold layT
  rcases eq_put hc hx hy hxy most with ⟨e1, g1, m1⟩ | ⟨e1, g1⟩
  rotate_left
  · rw [if_pos (by rw [e1]; decide)]
    exact .inr ⟨.inl e1, rfl⟩
  rw [if_neg (by rw [e1]; decide)]
  generalize (putT T (eqNd x y) most).T = T1 at *
  clear e1
  have hc1 := g1.core
  have hs1 := hs.grew g1 hc
  have hx1 := hx.mono g1
  have hy1 := hy.mono g1
  rw [diffT_shd hc1 hs1 hx1 hy1]
  by_cases hm : mayI (difN T1 x y) = true
  rotate_left
  · rw [if_neg hm]
    exact .inr ⟨.inr rfl, rfl⟩
  rw [if_pos hm]
  simp only [ne_eq, not_true_eq_false, if_false]
  by_cases hb : (baseT T1 x).1 = (baseT T1 y).1
  · rw [if_pos hb]
    exact .inl ⟨rfl, g1, m1, hm, .inl hb⟩
  rw [if_neg hb, leT_shd hc1 hs1 hx1 hy1 most hm hb]
  dsimp only
  rcases diff_put hc1 hs1 hx1 hy1 most hm hb with ⟨e2, g2, m2⟩ | ⟨e2, g2⟩
  rotate_left
  · rw [if_pos (by rw [e2]; decide)]
    exact .inr ⟨.inl e2, rfl⟩
  rw [if_neg (by rw [e2]; decide)]
  generalize (putT T1 (diffNd (baseT T1 x).1 (baseT T1 y).1 (difN T1 x y)) most).T = T2 at *
  clear e2
  have hc2 := g2.core
  have hs2 := hs1.grew g2 hc1
  have hx2 := hx1.mono g2
  have hy2 := hy1.mono g2
  have ebx := baseT_grew g2 hx1
  have eby := baseT_grew g2 hy1
  have edx := difN_grew g2 hx1 hy1
  have hm2 : mayI (difN T2 y x) = true := may_neg (by rw [edx]; exact hm)
  have hb2 : (baseT T2 y).1 ≠ (baseT T2 x).1 := by rw [ebx, eby]; exact fun e => hb e.symm
  rw [leT_shd hc2 hs2 hy2 hx2 most hm2 hb2]
  dsimp only
  rcases diff_put hc2 hs2 hy2 hx2 most hm2 hb2 with ⟨e3, g3, m3⟩ | ⟨e3, g3⟩
  rotate_left
  · exact .inr ⟨.inl e3, g3⟩
  refine .inl ⟨e3, (g1.trans g2).trans g3, g3.mem (g2.mem m1), ?_, .inr ⟨?_, ?_, ?_⟩⟩
  · rw [difN_grew g3 hx2 hy2, edx]
    exact hm
  · rw [baseT_grew g3 hx2, baseT_grew g3 hy2]
    exact fun e => hb2 e.symm
  · rw [baseT_grew g3 hx2, baseT_grew g3 hy2, difN_grew g3 hx2 hy2]
    have m2' : diffNd (baseT T2 x).1 (baseT T2 y).1 (difN T2 x y) ∈ T2 := by
      rw [ebx, eby, edx]
      exact m2
    exact g3.mem m2'
  · rw [baseT_grew g3 hx2, baseT_grew g3 hy2, difN_grew g3 hy2 hx2]
    exact m3
/-- Two that are laid are not laid anew. -/
theorem layT_laid {T : List Nd} (hc : CoreT T) (hs : SumT T) {x y : Int} (hx : Shd T x) (hy : Shd T y) (most : Int) (hl : LaidP T x y) : layT T x y most = ⟨T, 0⟩ := by
  have hst : Stands (eqNd x y) T.length := eq_stands ⟨hx.lo, hx.hi⟩ ⟨hy.lo, hy.hi⟩
  obtain ⟨e1, e2⟩ := putT_there (most := most) hc.ok hl.eq hst
  unfold layT
  rw [e1, e2, diffT_shd hc hs hx hy, if_pos hl.may]
  simp only [ne_eq, not_true_eq_false, if_false]
  rcases hl.dif with hb | ⟨hb, m1, m2⟩
  · rw [if_pos hb]
  · have bx := base_own hc hs hx
    have hby := base_own hc hs hy
    have hm2 := may_neg hl.may
    obtain ⟨f1, f2⟩ := putT_there (most := most) hc.ok m1 (diff_stands ⟨bx.2.1, bx.2.2.1⟩ ⟨hby.2.1, hby.2.2.1⟩ hl.may)
    obtain ⟨h1, h2⟩ := putT_there (most := most) hc.ok m2 (diff_stands ⟨hby.2.1, hby.2.2.1⟩ ⟨bx.2.1, bx.2.2.1⟩ hm2)
    rw [if_neg hb, leT_shd hc hs hx hy most hl.may hb]
    dsimp only
    rw [f1, f2, if_neg (by decide), leT_shd hc hs hy hx most hm2 (fun e => hb e.symm)]
    dsimp only
    rw [h1, h2]
/-- What laying of all comes to. -/
theorem laysT_is (most : Int) : ∀ {ps : List (Int × Int)} {T : List Nd}, CoreT T → SumT T → (∀ p ∈ ps, Shd T p.1 ∧ Shd T p.2 ∧ p.1 < p.2) →
    ((laysT ps T most).e = 0 ∧ Grew T (laysT ps T most).T ∧ ∀ p ∈ ps, LaidP (laysT ps T most).T p.1 p.2) ∨ (((laysT ps T most).e = 40 ∨ (laysT ps T most).e = 10) ∧ (laysT ps T most).T = [])
  | [], T, hc, _, _ => .inl ⟨rfl, .refl hc, fun p hp => by cases hp⟩
  | p :: r, T, hc, hs, hp => by
    obtain ⟨hx, hy, hxy⟩ := hp p (by simp)
    rw [laysT]
    rcases layT_is hc hs hx hy hxy most with ⟨e1, g1, l1⟩ | ⟨e1, g1⟩
    rotate_left
    · rw [if_pos (by rcases e1 with e | e <;> rw [e] <;> decide)]
      exact .inr ⟨e1, rfl⟩
    rw [if_neg (by rw [e1]; decide)]
    generalize (layT T p.1 p.2 most).T = T1 at *
    have hp1 : ∀ q ∈ r, Shd T1 q.1 ∧ Shd T1 q.2 ∧ q.1 < q.2 := fun q hq => by
      obtain ⟨h1, h2, h3⟩ := hp q (List.mem_cons_of_mem _ hq)
      exact ⟨h1.mono g1, h2.mono g1, h3⟩
    rcases laysT_is most g1.core (hs.grew g1 hc) hp1 with ⟨e2, g2, l2⟩ | h
    · refine .inl ⟨e2, g1.trans g2, fun q hq => ?_⟩
      rcases List.mem_cons.1 hq with rfl | hq
      · exact l1.grew g2 (hx.mono g1) (hy.mono g1)
      · exact l2 q hq
    · exact .inr h
theorem laysT_laid {T : List Nd} (hc : CoreT T) (hs : SumT T) (most : Int) : ∀ {ps : List (Int × Int)}, (∀ p ∈ ps, Shd T p.1 ∧ Shd T p.2) → (∀ p ∈ ps, LaidP T p.1 p.2) → laysT ps T most = ⟨T, 0⟩
  | [], _, _ => rfl
  | p :: r, h, k => by
    rw [laysT, layT_laid hc hs (h p (by simp)).1 (h p (by simp)).2 most (k p (by simp))]
    dsimp only
    rw [if_neg (by decide)]
    exact laysT_laid hc hs most (fun q hq => h q (List.mem_cons_of_mem _ hq)) (fun q hq => k q (List.mem_cons_of_mem _ hq))
theorem nodes_pairs {T : List Nd} {p : Int × Int} (h : p ∈ pairsL (nodesT T)) : Shd T p.1 ∧ Shd T p.2 ∧ p.1 < p.2 := by
  obtain ⟨h1, h2, h3⟩ := (mem_pairs (nodes_sorted T)).1 h
  exact ⟨(mem_nodes h1).1, (mem_nodes h2).1, h3⟩
/-- A table laid: what it leaves; laid again it is the same. -/
theorem putS_is {T : List Nd} (hc : CoreT T) (hs : SumT T) (most : Int) :
    ((putS T most).e = 0 ∧ Grew T (putS T most).T ∧ (∀ p ∈ pairsL (nodesT T), LaidP (putS T most).T p.1 p.2) ∧ (nodesT T).length ≤ 12) ∨ (((putS T most).e = 40 ∨ (putS T most).e = 10) ∧ (putS T most).T = []) := by
  unfold putS
  rw [if_pos (coreB_iff.2 hc)]
  by_cases h : 12 < (nodesT T).length
  · rw [if_pos h]
    exact .inr ⟨.inl rfl, rfl⟩
  · rw [if_neg h]
    rcases laysT_is most hc hs (fun p hp => nodes_pairs hp) with ⟨e, g, l⟩ | h2
    · exact .inl ⟨e, g, l, by omega⟩
    · exact .inr h2
theorem putS_again {T : List Nd} (hc : CoreT T) (hs : SumT T) {most most' : Int} (he : (putS T most).e = 0) : putS (putS T most).T most' = ⟨(putS T most).T, 0⟩ := by
  rcases putS_is hc hs most with ⟨_, g, l, hn⟩ | ⟨h, _⟩
  · generalize (putS T most).T = T' at g l ⊢
    have hc' := g.core
    have e := nodesT_grew g
    unfold putS
    rw [if_pos (coreB_iff.2 hc'), e, if_neg (by omega)]
    exact laysT_laid hc' (hs.grew g hc) most' (fun p hp => ⟨(nodes_pairs hp).1.mono g, (nodes_pairs hp).2.1.mono g⟩) l
  · rw [he] at h
    rcases h with h | h <;> cases h
end Go.Proofs.YtlipnnibagidiaaGreat

/- What is made of literals: in order, each once, just those that are not below 0. -/
namespace Go.Proofs.YtlipnnibagidiaaGreat
open Go.Lib

theorem keeps_iff (d : Array Int) (j : Nat) : keeps d j = true ↔ j = 0 ∨ d[j]! ≠ d[j - 1]! := by
  unfold keeps
  simp

theorem get_le {zs : List Int} (h : zs.Pairwise (· ≤ ·)) {i j : Nat} (hij : i ≤ j) (hj : j < zs.length) : zs[i]'(by omega) ≤ zs[j] := by
  rcases Nat.lt_or_ge i j with h1 | h1
  · exact List.pairwise_iff_getElem.1 h i j (by omega) hj h1
  · obtain rfl : i = j := by omega
    exact Int.le_refl _

theorem compact_lt {zs : List Int} (h : zs.Pairwise (· ≤ ·)) : (compact zs).Pairwise (· < ·) := by
  unfold compact compactUpTo
  rw [List.pairwise_map, List.pairwise_filter]
  refine List.Pairwise.imp_of_mem ?_ (List.pairwise_lt_range (n := zs.length))
  intro i j hi hj hij _ hk
  have hj' := List.mem_range.1 hj
  have hi' := List.mem_range.1 hi
  rcases (keeps_iff _ _).1 hk with h0 | h0
  · omega
  · have a1 := get_le h (show i ≤ j - 1 by omega) (show j - 1 < zs.length by omega)
    have a2 := get_le h (show j - 1 ≤ j by omega) hj'
    have e1 : zs.toArray[j]! = zs[j] := by simp [getElem!_pos, hj']
    have e2 : zs.toArray[j - 1]! = zs[j - 1] := by simp [getElem!_pos, show j - 1 < zs.length by omega]
    have e3 : zs.toArray[i]! = zs[i] := by simp [getElem!_pos, hi']
    rw [e1, e2] at h0
    show zs.toArray[i]! < zs.toArray[j]!
    rw [e1, e3]
    omega

theorem mem_compact {zs : List Int} (x : Int) : x ∈ compact zs ↔ x ∈ zs := by
  unfold compact compactUpTo
  rw [List.mem_map]
  constructor
  · rintro ⟨j, hj, rfl⟩
    have hj' := List.mem_range.1 (List.mem_filter.1 hj).1
    have e1 : zs.toArray[j]! = zs[j] := by simp [getElem!_pos, hj']
    rw [e1]
    exact List.getElem_mem hj'
  · intro hx
    have key : ∀ i : Nat, ∀ h : i < zs.length, zs[i] = x → ∃ j, j ∈ (List.range zs.length).filter (keeps zs.toArray) ∧ zs.toArray[j]! = x := by
      intro i
      induction i with
      | zero =>
        intro h hx
        refine ⟨0, List.mem_filter.2 ⟨List.mem_range.2 h, (keeps_iff _ _).2 (.inl rfl)⟩, ?_⟩
        rw [show zs.toArray[0]! = zs[0] by simp [getElem!_pos, h], hx]
      | succ i ih =>
        intro h hx
        by_cases he : zs[i] = x
        · exact ih (by omega) he
        · have e1 : zs.toArray[i + 1]! = zs[i + 1] := by simp [getElem!_pos, h]
          have e2 : zs.toArray[i + 1 - 1]! = zs[i] := by simp [getElem!_pos, show i < zs.length by omega]
          refine ⟨i + 1, List.mem_filter.2 ⟨List.mem_range.2 h, (keeps_iff _ _).2 (.inr ?_)⟩, ?_⟩
          · rw [e1, e2, hx]
            exact fun e => he e.symm
          · rw [e1, hx]
    obtain ⟨i, hi, e⟩ := List.mem_iff_getElem.1 hx
    exact key i hi e

/-- In order, each once. -/
def Ord (l : List Int) : Prop := l.Pairwise (· < ·)

theorem ord_ext : ∀ {l m : List Int}, Ord l → Ord m → (∀ x, x ∈ l ↔ x ∈ m) → l = m
  | [], [], _, _, _ => rfl
  | [], y :: m, _, _, h => absurd ((h y).2 List.mem_cons_self) (by simp)
  | x :: l, [], _, _, h => absurd ((h x).1 List.mem_cons_self) (by simp)
  | x :: l, y :: m, hl, hm, h => by
    obtain ⟨a1, a2⟩ := List.pairwise_cons.1 hl
    obtain ⟨b1, b2⟩ := List.pairwise_cons.1 hm
    have e : x = y := by
      rcases List.mem_cons.1 ((h x).1 List.mem_cons_self) with e | e
      · exact e
      · rcases List.mem_cons.1 ((h y).2 List.mem_cons_self) with e' | e'
        · exact e'.symm
        · have := a1 y e'; have := b1 x e; omega
    subst e
    refine congrArg (x :: ·) (ord_ext a2 b2 fun z => ?_)
    constructor
    · intro hz
      rcases List.mem_cons.1 ((h z).1 (List.mem_cons_of_mem _ hz)) with e | e
      · have := a1 z hz; omega
      · exact e
    · intro hz
      rcases List.mem_cons.1 ((h z).2 (List.mem_cons_of_mem _ hz)) with e | e
      · have := b1 z hz; omega
      · exact e

theorem made_ord (l : List Int) : Ord (compact (l.mergeSort fun x y => decide (x ≤ y))) := by
  refine compact_lt ?_
  have h := List.pairwise_mergeSort (le := fun x y : Int => decide (x ≤ y)) (fun a b c h1 h2 => by simp at *; omega) (fun a b => by simp; omega) l
  exact h.imp fun h => by simpa using h
theorem made_mem (l : List Int) (x : Int) : x ∈ compact (l.mergeSort fun x y => decide (x ≤ y)) ↔ x ∈ l := by
  rw [mem_compact, List.mem_mergeSort]
end Go.Proofs.YtlipnnibagidiaaGreat

/- What is made of literals (clause.Make), plainly. -/
namespace Go.Proofs.YtlipnnibagidiaaGreat

def makeM (l : List Int) : List Int := Lib.compact ((l.filter fun x => !decide (x < 0)).mergeSort fun x y => decide (x ≤ y))
theorem mem_make (l : List Int) (x : Int) : x ∈ makeM l ↔ x ∈ l ∧ 0 ≤ x := by
  unfold makeM
  rw [made_mem, List.mem_filter]
  simp
theorem make_ord (l : List Int) : Ord (makeM l) := made_ord _
theorem make_eq {l m : List Int} (h : ∀ x, 0 ≤ x → (x ∈ l ↔ x ∈ m)) : makeM l = makeM m := by
  refine ord_ext (make_ord l) (make_ord m) fun x => ?_
  rw [mem_make, mem_make]
  constructor
  · rintro ⟨h1, h2⟩
    exact ⟨(h x h2).1 h1, h2⟩
  · rintro ⟨h1, h2⟩
    exact ⟨(h x h2).2 h1, h2⟩
end Go.Proofs.YtlipnnibagidiaaGreat
