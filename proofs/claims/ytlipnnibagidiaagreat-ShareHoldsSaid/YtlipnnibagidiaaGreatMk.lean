/- What is made of literals (clause.Make), plainly. -/
import Derived.Test.YtlipnnibagidiaaGreatShP
import Derived.Lib.SlicesCompact
namespace Go.Proofs.YtlipnnibagidiaaGreat
def ndAt (T : List Nd) (i : Int) : Nd := if i < 0 then ⟨-1, 0, 0, 0, 0, -1, 0, 0⟩ else T.getD i.toNat ⟨-1, 0, 0, 0, 0, -1, 0, 0⟩
theorem ndAt_nat {T : List Nd} {i : Nat} (h : i < T.length) : ndAt T i = T[i] := by
  unfold ndAt
  rw [if_neg (by omega), Int.toNat_natCast, List.getD_eq_getElem?_getD, List.getElem?_eq_getElem h]
  rfl
theorem ndAt_some {T : List Nd} {i : Nat} {n : Nd} (h : T[i]? = some n) : ndAt T i = n := by
  obtain ⟨h1, h2⟩ := List.getElem?_eq_some_iff.1 h
  rw [ndAt_nat h1, h2]
def ordB (T : List Nd) : Bool := T.all fun n => decide (n.op = 11 → n.num ≠ 0 ∧ (ndAt T n.a0).op ≠ 11 ∧ (ndAt T n.a0).op ≠ 10)
theorem ordB_iff {T : List Nd} : ordB T = true ↔ ∀ n ∈ T, n.op = 11 → n.num ≠ 0 ∧ (ndAt T n.a0).op ≠ 11 ∧ (ndAt T n.a0).op ≠ 10 := by
  unfold ordB
  simp only [List.all_eq_true, decide_eq_true_eq]
def baseT (T : List Nd) (id : Int) : Int × Int := if (ndAt T id).op = 11 then ((ndAt T id).a0, (ndAt T id).num) else if (ndAt T id).op = 10 then (1, (ndAt T id).num) else (id, 0)
structure OfR where
  b : Int
  n : Int
  e : Int
def ofT (T : List Nd) (id : Int) : OfR := if tabB T && decide (0 ≤ id) && decide (id < T.length) then (if (ndAt T id).sort = 1 then ⟨(baseT T id).1, (baseT T id).2, 0⟩ else ⟨0, 0, 33⟩) else ⟨0, 0, 2⟩
def subN (a b : Int) : Int × Int := if mayI a && mayI b && mayI (a - b) then (a - b, 0) else (0, 10)
def addN (a b : Int) : Int × Int := if mayI a && mayI b && mayI (a + b) then (a + b, 0) else (0, 10)
structure DiffR where
  x : Int
  y : Int
  d : Int
  e : Int
def diffT (T : List Nd) (a b c : Int) : DiffR :=
  if (ofT T a).e ≠ 0 then ⟨0, 0, 0, (ofT T a).e⟩ else
  if (ofT T b).e ≠ 0 then ⟨0, 0, 0, (ofT T b).e⟩ else
  if (subN c (ofT T a).n).2 ≠ 0 then ⟨0, 0, 0, (subN c (ofT T a).n).2⟩ else
  if (addN (subN c (ofT T a).n).1 (ofT T b).n).2 ≠ 0 then ⟨0, 0, 0, (addN (subN c (ofT T a).n).1 (ofT T b).n).2⟩ else
  ⟨(ofT T a).b, (ofT T b).b, (addN (subN c (ofT T a).n).1 (ofT T b).n).1, 0⟩
def diffNd (x y d : Int) : Nd := ⟨12, 2, x, y, 0, 0, 0, d⟩
def notNd (a : Int) : Nd := ⟨1, 1, a, 0, 0, 0, 0, 0⟩
def eqNd (x y : Int) : Nd := ⟨6, 2, x, y, 0, 0, 0, 0⟩
structure LeR where
  T : List Nd
  id : Int
  is : Bool
  e : Int
def leT (T : List Nd) (a b c most : Int) : LeR :=
  if (diffT T a b c).e ≠ 0 then ⟨[], 0, false, (diffT T a b c).e⟩ else
  if (diffT T a b c).x ≠ (diffT T a b c).y then
    ⟨(putT T (diffNd (diffT T a b c).x (diffT T a b c).y (diffT T a b c).d) most).T, (putT T (diffNd (diffT T a b c).x (diffT T a b c).y (diffT T a b c).d) most).id, decide ((putT T (diffNd (diffT T a b c).x (diffT T a b c).y (diffT T a b c).d) most).e = 0), (putT T (diffNd (diffT T a b c).x (diffT T a b c).y (diffT T a b c).d) most).e⟩
  else if 0 ≤ (diffT T a b c).d then ⟨T, 0, false, 0⟩
  else ⟨(putT T (notNd 0) most).T, (putT T (notNd 0) most).id, false, (putT T (notNd 0) most).e⟩
def ownB (T : List Nd) (id : Int) : Bool := decide ((baseT T id).1 = id) && decide ((ndAt T id).sort = 1)
def fitB (T : List Nd) (n : Nd) : Bool :=
  if n.op = 4 ∨ n.op = 5 ∨ n.op = 8 ∨ n.op = 9 then false
  else if n.op = 1 then decide ((ndAt T n.a0).op ≠ 1)
  else if n.op = 6 then (if (ndAt T n.a0).sort = 1 then decide (n.a0 < n.a1) && decide ((ndAt T n.a1).sort = 1) else decide ((ndAt T n.a0).sort = 0) || decide (n.a0 ≠ n.a1))
  else if n.op = 12 then decide (n.a0 ≠ n.a1) && ownB T n.a0 && ownB T n.a1
  else true
def coreB (T : List Nd) : Bool := tabB T && ordB T && T.all (fitB T)
def sharedB (T : List Nd) (i : Nat) : Bool :=
  (decide ((ndAt T i).op = 13) && decide (0 < (ndAt T i).len) && decide ((ndAt T i).sort = 1)) ||
  (decide ((ndAt T i).sort = 1) && T.any fun n => decide (n.op = 13) && ((decide (0 < n.len) && decide (n.a0 = i)) || (decide (1 < n.len) && decide (n.a1 = i)) || (decide (2 < n.len) && decide (n.a2 = i))))
def nodesT (T : List Nd) : List Int := ((List.range T.length).filter (sharedB T)).map fun (i : Nat) => (i : Int)
structure LayR where
  T : List Nd
  e : Int
def layT (T : List Nd) (x y most : Int) : LayR :=
  if (putT T (eqNd x y) most).e ≠ 0 then ⟨[], (putT T (eqNd x y) most).e⟩ else
  if (diffT (putT T (eqNd x y) most).T x y 0).e ≠ 0 then ⟨[], (diffT (putT T (eqNd x y) most).T x y 0).e⟩ else
  if (diffT (putT T (eqNd x y) most).T x y 0).x = (diffT (putT T (eqNd x y) most).T x y 0).y then ⟨(putT T (eqNd x y) most).T, 0⟩ else
  if (leT (putT T (eqNd x y) most).T x y 0 most).e ≠ 0 then ⟨[], (leT (putT T (eqNd x y) most).T x y 0 most).e⟩ else
  ⟨(leT (leT (putT T (eqNd x y) most).T x y 0 most).T y x 0 most).T, (leT (leT (putT T (eqNd x y) most).T x y 0 most).T y x 0 most).e⟩
def pairsL : List Int → List (Int × Int)
  | [] => []
  | x :: r => r.map (fun y => (x, y)) ++ pairsL r
def laysT : List (Int × Int) → List Nd → Int → LayR
  | [], T, _ => ⟨T, 0⟩
  | p :: r, T, most => if (layT T p.1 p.2 most).e ≠ 0 then ⟨[], (layT T p.1 p.2 most).e⟩ else laysT r (layT T p.1 p.2 most).T most
def putS (T : List Nd) (most : Int) : LayR := if coreB T then (if 12 < (nodesT T).length then ⟨[], 40⟩ else laysT (pairsL (nodesT T)) T most) else ⟨[], 2⟩
def shW : List Nd := [trueNd, zeroNd, ⟨13, 0, 0, 0, 0, 1, 0, 0⟩, ⟨11, 1, 2, 0, 0, 1, 0, 1⟩, ⟨13, 1, 2, 0, 0, 0, 1, 0⟩, ⟨13, 1, 3, 0, 0, 0, 1, 0⟩]
theorem shW_core : coreB shW = true := by decide +kernel
theorem shW_nodes : nodesT shW = [2, 3] := by decide +kernel
theorem shW_put : (putS shW 20).e = 0 ∧ (putS shW 20).T = shW ++ [eqNd 2 3] := by decide +kernel
end Go.Proofs.YtlipnnibagidiaaGreat
namespace Go.Proofs.YtlipnnibagidiaaGreat
theorem ndAt_append {T S : List Nd} {i : Int} (h0 : 0 ≤ i) (h : i < T.length) : ndAt (T ++ S) i = ndAt T i := by
  obtain ⟨k, rfl⟩ : ∃ k : Nat, i = k := ⟨i.toNat, by omega⟩
  have hk : k < T.length := by omega
  rw [ndAt_nat hk, ndAt_nat (by rw [List.length_append]; omega), List.getElem_append_left hk]
theorem ndAt_mem {T : List Nd} {i : Int} (h0 : 0 ≤ i) (h : i < T.length) : ndAt T i ∈ T := by
  obtain ⟨k, rfl⟩ : ∃ k : Nat, i = k := ⟨i.toNat, by omega⟩
  rw [ndAt_nat (by omega)]
  exact List.getElem_mem _
theorem mem_ndAt {T : List Nd} {n : Nd} (h : n ∈ T) : ∃ i : Nat, i < T.length ∧ ndAt T i = n := by
  obtain ⟨i, hi, rfl⟩ := List.mem_iff_getElem.1 h
  exact ⟨i, hi, ndAt_nat hi⟩
theorem Stands.arg_lt {n : Nd} {a : Int} (h : Stands n a) (j : Nat) (hj : j < 3) (hl : (j : Int) < n.len) : 0 ≤ n.arg j ∧ n.arg j < a := (h.args j hj).1 hl
theorem Stands.len_of {n : Nd} {a lo : Int} (h : Stands n a) (hA : arityM n.op = some (lo, lo)) : n.len = lo := by
  obtain ⟨x, y, e, h1, h2⟩ := h.ar
  rw [hA] at e
  injection e with e
  injection e with e1 e2
  omega
theorem Stands.two {n : Nd} {a : Int} (h : Stands n a) (ho : n.op = 6 ∨ n.op = 12 ∨ n.op = 2 ∨ n.op = 3) : (0 ≤ n.a0 ∧ n.a0 < a) ∧ (0 ≤ n.a1 ∧ n.a1 < a) := by
  have hl : n.len = 2 := h.len_of (by rcases ho with e | e | e | e <;> rw [e] <;> decide)
  exact ⟨h.arg_lt 0 (by omega) (by rw [hl]; decide), h.arg_lt 1 (by omega) (by rw [hl]; decide)⟩
theorem Stands.one {n : Nd} {a : Int} (h : Stands n a) (ho : n.op = 1 ∨ n.op = 11) : 0 ≤ n.a0 ∧ n.a0 < a := by
  have hl : n.len = 1 := h.len_of (by rcases ho with e | e <;> rw [e] <;> decide)
  exact h.arg_lt 0 (by omega) (by rw [hl]; decide)
theorem TabOk.stands {T : List Nd} (h : TabOk T) {n : Nd} (hn : n ∈ T) : ∃ i : Nat, i < T.length ∧ T[i]? = some n ∧ Stands n i := by
  obtain ⟨i, hi, rfl⟩ := List.mem_iff_getElem.1 hn
  exact ⟨i, hi, List.getElem?_eq_getElem hi, h.st i _ (List.getElem?_eq_getElem hi)⟩
theorem baseT_append {T S : List Nd} {i : Int} (h0 : 0 ≤ i) (h : i < T.length) : baseT (T ++ S) i = baseT T i := by
  unfold baseT
  rw [ndAt_append h0 h]
def ordN (T : List Nd) (n : Nd) : Prop := n.op = 11 → n.num ≠ 0 ∧ (ndAt T n.a0).op ≠ 11 ∧ (ndAt T n.a0).op ≠ 10
theorem ordN_append {T S : List Nd} {n : Nd} {a : Int} (hs : Stands n a) (ha : a ≤ T.length) : ordN (T ++ S) n ↔ ordN T n := by
  unfold ordN
  constructor
  · intro h ho
    have h1 := hs.one (.inr ho)
    have := h ho
    rwa [ndAt_append h1.1 (by omega)] at this
  · intro h ho
    have h1 := hs.one (.inr ho)
    rw [ndAt_append h1.1 (by omega)]
    exact h ho
theorem ownB_append {T S : List Nd} {i : Int} (h0 : 0 ≤ i) (h : i < T.length) : ownB (T ++ S) i = ownB T i := by
  unfold ownB
  rw [baseT_append h0 h, ndAt_append h0 h]
theorem fitB_append {T S : List Nd} {n : Nd} {a : Int} (hs : Stands n a) (ha : a ≤ T.length) : fitB (T ++ S) n = fitB T n := by
  unfold fitB
  by_cases h1 : n.op = 1
  · have := hs.one (.inl h1)
    rw [ndAt_append this.1 (by omega)]
    simp only [h1]
    rfl
  by_cases h6 : n.op = 6
  · have := hs.two (.inl h6)
    rw [ndAt_append this.1.1 (by omega), ndAt_append this.2.1 (by omega)]
    simp only [h6]
    rfl
  by_cases h12 : n.op = 12
  · have := hs.two (.inr (.inl h12))
    rw [ownB_append this.1.1 (by omega), ownB_append this.2.1 (by omega)]
    simp only [h12]
    rfl
  · simp only [h1, h6, h12, if_false]
structure CoreT (T : List Nd) : Prop where
  ok : TabOk T
  ord : ∀ n ∈ T, ordN T n
  fit : ∀ n ∈ T, fitB T n = true
theorem coreB_iff {T : List Nd} : coreB T = true ↔ CoreT T := by
  unfold coreB
  rw [Bool.and_eq_true, Bool.and_eq_true, tabB_iff, ordB_iff, List.all_eq_true]
  exact ⟨fun ⟨⟨h1, h2⟩, h3⟩ => ⟨h1, h2, h3⟩, fun ⟨h1, h2, h3⟩ => ⟨⟨h1, h2⟩, h3⟩⟩
theorem CoreT.push {T : List Nd} (h : CoreT T) {n : Nd} (hs : Stands n T.length) (hn : n ∉ T) (ho : ordN T n) (hf : fitB T n = true) : CoreT (T ++ [n]) := by
  refine ⟨h.ok.push hs hn, fun m hm => ?_, fun m hm => ?_⟩
  · rcases List.mem_append.1 hm with hm | hm
    · obtain ⟨i, hi, _, hst⟩ := h.ok.stands hm
      exact (ordN_append hst (by omega)).2 (h.ord m hm)
    · obtain rfl := List.mem_singleton.1 hm
      exact (ordN_append hs (by omega)).2 ho
  · rcases List.mem_append.1 hm with hm | hm
    · obtain ⟨i, hi, _, hst⟩ := h.ok.stands hm
      rw [fitB_append hst (by omega)]
      exact h.fit m hm
    · obtain rfl := List.mem_singleton.1 hm
      rw [fitB_append hs (by omega)]
      exact hf
structure Grew (T T' : List Nd) : Prop where
  core : CoreT T'
  ext : ∃ S, T' = T ++ S ∧ ∀ n ∈ S, n.op ≠ 13 ∧ n.op ≠ 11 ∧ n.sort = 0
theorem Grew.refl {T : List Nd} (h : CoreT T) : Grew T T := ⟨h, [], by simp, fun n hn => by cases hn⟩
theorem Grew.trans {T T' T2 : List Nd} (h : Grew T T') (k : Grew T' T2) : Grew T T2 := by
  obtain ⟨S, rfl, h2⟩ := h.ext
  obtain ⟨S2, rfl, k2⟩ := k.ext
  exact ⟨k.core, S ++ S2, by rw [List.append_assoc], fun n hn => (List.mem_append.1 hn).elim (h2 n) (k2 n)⟩
theorem Grew.len {T T' : List Nd} (h : Grew T T') : T.length ≤ T'.length := by
  obtain ⟨S, rfl, _⟩ := h.ext
  rw [List.length_append]
  omega
theorem Grew.at_ {T T' : List Nd} (h : Grew T T') {i : Int} (h0 : 0 ≤ i) (h1 : i < T.length) : ndAt T' i = ndAt T i := by
  obtain ⟨S, rfl, _⟩ := h.ext
  exact ndAt_append h0 h1
theorem putT_grew {T : List Nd} (h : CoreT T) {n : Nd} {most : Int} (ho : ordN T n) (hf : fitB T n = true) (h13 : n.op ≠ 13) (h11 : n.op ≠ 11) (hs : n.sort = 0) (he : (putT T n most).e = 0) : Grew T (putT T n most).T ∧ n ∈ (putT T n most).T := by
  obtain ⟨_, hst, _, ⟨k, _, hk⟩, _⟩ := putT_ok he
  have hmem : n ∈ (putT T n most).T := List.mem_of_getElem? hk
  refine ⟨?_, hmem⟩
  unfold putT at he ⊢
  by_cases h1 : (tabB T && standsB n T.length) = true
  · rw [if_pos h1] at he ⊢
    by_cases h2 : n ∈ T
    · rw [if_pos h2]
      exact .refl h
    · rw [if_neg h2] at he ⊢
      by_cases h3 : most ≤ (T.length : Int)
      · rw [if_pos h3] at he
        cases he
      · rw [if_neg h3]
        exact ⟨h.push hst h2 ho hf, [n], rfl, fun m hm => by rw [List.mem_singleton] at hm; rw [hm]; exact ⟨h13, h11, hs⟩⟩
  · rw [if_neg h1] at he
    cases he
theorem putT_err {T : List Nd} (h : TabOk T) {n : Nd} {most : Int} (hs : Stands n T.length) : (putT T n most).e = 0 ∨ ((putT T n most).e = 40 ∧ (putT T n most).T = []) := by
  unfold putT
  rw [if_pos (by rw [Bool.and_eq_true, tabB_iff, standsB_iff]; exact ⟨h, hs⟩)]
  split
  · exact .inl rfl
  · split
    · exact .inr ⟨rfl, rfl⟩
    · exact .inl rfl
end Go.Proofs.YtlipnnibagidiaaGreat
namespace Go.Proofs.YtlipnnibagidiaaGreat
theorem sharedB_grew {T T' : List Nd} (h : Grew T T') (i : Nat) : sharedB T' i = (decide (i < T.length) && sharedB T i) := by
  obtain ⟨S, rfl, hS⟩ := h.ext
  have hany : ∀ p : Nd → Bool, (∀ n ∈ S, p n = false) → (T ++ S).any p = T.any p := fun p hp => by
    have h0 : S.any p = false := List.any_eq_false.2 fun n hn => by rw [hp n hn]; simp
    rw [List.any_append, h0, Bool.or_false]
  by_cases hi : i < T.length
  · unfold sharedB
    rw [ndAt_append (by omega) (by omega), hany _ (fun n hn => by simp [(hS n hn).1])]
    simp [hi]
  · have h0 : (ndAt (T ++ S) i).sort ≠ 1 := by
      by_cases h2 : i < (T ++ S).length
      · rw [ndAt_nat h2, List.getElem_append_right (by omega)]
        have := (hS _ (List.getElem_mem (l := S) (n := i - T.length) (by rw [List.length_append] at h2; omega))).2.2
        omega
      · unfold ndAt
        rw [if_neg (by omega), Int.toNat_natCast, List.getD_eq_getElem?_getD, List.getElem?_eq_none (by omega)]
        decide
    unfold sharedB
    simp [h0, hi]
theorem nodesT_grew {T T' : List Nd} (h : Grew T T') : nodesT T' = nodesT T := by
  have hl := h.len
  unfold nodesT
  congr 1
  rw [show T'.length = T.length + (T'.length - T.length) by omega, List.range_add, List.filter_append]
  have h1 : (List.range T.length).filter (sharedB T') = (List.range T.length).filter (sharedB T) := List.filter_congr fun i hi => by
    rw [sharedB_grew h, decide_eq_true (List.mem_range.1 hi), Bool.true_and]
  have h2 : ((List.range (T'.length - T.length)).map (fun x => T.length + x)).filter (sharedB T') = [] := List.filter_eq_nil_iff.2 fun i hi => by
    obtain ⟨k, _, rfl⟩ := List.mem_map.1 hi
    rw [sharedB_grew h, decide_eq_false (by omega)]
    simp
  rw [h1, h2, List.append_nil]
structure Shd (T : List Nd) (x : Int) : Prop where
  lo : 0 ≤ x
  hi : x < T.length
  sort : (ndAt T x).sort = 1
theorem mem_nodes {T : List Nd} {x : Int} (h : x ∈ nodesT T) : Shd T x ∧ sharedB T x.toNat = true := by
  unfold nodesT at h
  obtain ⟨i, hi, rfl⟩ := List.mem_map.1 h
  obtain ⟨h1, h2⟩ := List.mem_filter.1 hi
  refine ⟨⟨by omega, by have := List.mem_range.1 h1; omega, ?_⟩, by rw [Int.toNat_natCast]; exact h2⟩
  unfold sharedB at h2
  simp only [Bool.or_eq_true, Bool.and_eq_true, decide_eq_true_eq] at h2
  rcases h2 with ⟨_, h⟩ | ⟨h, _⟩ <;> exact h
theorem nodes_sorted (T : List Nd) : (nodesT T).Pairwise (· < ·) := by
  unfold nodesT
  rw [List.pairwise_map]
  exact (List.Pairwise.filter _ List.pairwise_lt_range).imp fun h => by omega
theorem mem_pairs : ∀ {l : List Int} {p : Int × Int}, l.Pairwise (· < ·) → (p ∈ pairsL l ↔ p.1 ∈ l ∧ p.2 ∈ l ∧ p.1 < p.2)
  | [], p, _ => by simp [pairsL]
  | x :: r, p, h => by
    obtain ⟨h1, h2⟩ := List.pairwise_cons.1 h
    rw [pairsL, List.mem_append, mem_pairs h2, List.mem_map]
    constructor
    · rintro (⟨y, hy, rfl⟩ | ⟨h3, h4, h5⟩)
      · exact ⟨by simp, by simp [hy], h1 y hy⟩
      · exact ⟨List.mem_cons_of_mem _ h3, List.mem_cons_of_mem _ h4, h5⟩
    · rintro ⟨h3, h4, h5⟩
      rcases List.mem_cons.1 h3 with e | h3
      · rcases List.mem_cons.1 h4 with e2 | h4
        · omega
        · exact .inl ⟨p.2, h4, by rw [← e]⟩
      · rcases List.mem_cons.1 h4 with e2 | h4
        · have := h1 _ h3
          omega
        · exact .inr ⟨h3, h4, h5⟩
def SumT (T : List Nd) : Prop := ∀ n ∈ T, n.op = 11 → (ndAt T n.a0).sort = 1
theorem Shd.mono {T T' : List Nd} (h : Grew T T') {x : Int} (hx : Shd T x) : Shd T' x := ⟨hx.lo, by have := h.len; have := hx.hi; omega, by rw [h.at_ hx.lo hx.hi]; exact hx.sort⟩
theorem SumT.grew {T T' : List Nd} (h : Grew T T') (hs : SumT T) (hc : CoreT T) : SumT T' := fun n hn ho => by
  have hn' : n ∈ T := by
    obtain ⟨S, rfl, hS⟩ := h.ext
    rcases List.mem_append.1 hn with hn | hn
    · exact hn
    · exact absurd ho (hS n hn).2.1
  obtain ⟨i, hi, _, hst⟩ := hc.ok.stands hn'
  have h1 := hst.one (.inr ho)
  rw [h.at_ h1.1 (by omega)]
  exact hs n hn' ho
theorem base_own {T : List Nd} (hc : CoreT T) (hs : SumT T) {x : Int} (hx : Shd T x) : ownB T (baseT T x).1 = true ∧ 0 ≤ (baseT T x).1 ∧ (baseT T x).1 < T.length ∧ mayI (baseT T x).2 = true := by
  have hm := ndAt_mem hx.lo hx.hi
  obtain ⟨i, hi, _, hst⟩ := hc.ok.stands hm
  have h2 := hc.ok.len
  by_cases h11 : (ndAt T x).op = 11
  · have h1 := hst.one (.inr h11)
    have ho := hc.ord _ hm h11
    have e : baseT T x = ((ndAt T x).a0, (ndAt T x).num) := by unfold baseT; rw [if_pos h11]
    rw [e]
    refine ⟨?_, h1.1, by omega, mayI_iff.2 (hst.numb.1 (.inr (.inl h11)))⟩
    unfold ownB baseT
    rw [if_neg ho.2.1, if_neg ho.2.2]
    simp [hs _ hm h11]
  · by_cases h10 : (ndAt T x).op = 10
    · have e : baseT T x = (1, (ndAt T x).num) := by unfold baseT; rw [if_neg h11, if_pos h10]
      rw [e]
      refine ⟨?_, by show (0 : Int) ≤ 1; decide, by show (1 : Int) < _; omega, mayI_iff.2 (hst.numb.1 (.inl h10))⟩
      have h1 : ndAt T 1 = zeroNd := ndAt_some (i := 1) hc.ok.t1
      show ownB T 1 = true
      unfold ownB baseT
      rw [h1]
      decide
    · have e : baseT T x = (x, 0) := by unfold baseT; rw [if_neg h11, if_neg h10]
      rw [e]
      refine ⟨?_, hx.lo, hx.hi, by show mayI 0 = true; decide⟩
      unfold ownB
      rw [e]
      simp [hx.sort]
theorem ofT_shd {T : List Nd} (hc : TabOk T) {x : Int} (hx : Shd T x) : ofT T x = ⟨(baseT T x).1, (baseT T x).2, 0⟩ := by
  unfold ofT
  rw [if_pos (by simp [tabB_iff.2 hc, hx.lo, hx.hi]), if_pos hx.sort]
def difN (T : List Nd) (x y : Int) : Int := (baseT T y).2 - (baseT T x).2
theorem diffT_shd {T : List Nd} (hc : CoreT T) (hs : SumT T) {x y : Int} (hx : Shd T x) (hy : Shd T y) :
    diffT T x y 0 = if mayI (difN T x y) = true then ⟨(baseT T x).1, (baseT T y).1, difN T x y, 0⟩ else ⟨0, 0, 0, 10⟩ := by
  have mx := (base_own hc hs hx).2.2.2
  have my := (base_own hc hs hy).2.2.2
  have m0 : mayI 0 = true := by decide
  have m1 : mayI (0 - (baseT T x).2) = true := by
    rw [mayI_iff] at mx ⊢
    omega
  have e1 : subN 0 (baseT T x).2 = (0 - (baseT T x).2, 0) := by unfold subN; rw [if_pos (by simp [m0, mx]; simpa using m1)]
  unfold diffT
  rw [ofT_shd hc.ok hx, ofT_shd hc.ok hy]
  simp only [e1]
  have e2 : 0 - (baseT T x).2 + (baseT T y).2 = difN T x y := by unfold difN; omega
  unfold addN
  rw [e2]
  by_cases hm : mayI (difN T x y) = true
  · rw [if_pos (show (mayI (0 - (baseT T x).2) && mayI (baseT T y).2 && mayI (difN T x y)) = true by rw [m1, my, hm]; rfl), if_pos hm]
    simp
  · rw [if_neg (show ¬ (mayI (0 - (baseT T x).2) && mayI (baseT T y).2 && mayI (difN T x y)) = true by rw [m1, my]; simpa using hm), if_neg hm]
    simp
end Go.Proofs.YtlipnnibagidiaaGreat
namespace Go.Proofs.YtlipnnibagidiaaGreat
theorem args3 {n : Nd} {a : Int} (h0 : ((0 : Int) < n.len → 0 ≤ n.a0 ∧ n.a0 < a) ∧ (n.len ≤ 0 → n.a0 = 0)) (h1 : ((1 : Int) < n.len → 0 ≤ n.a1 ∧ n.a1 < a) ∧ (n.len ≤ 1 → n.a1 = 0)) (h2 : ((2 : Int) < n.len → 0 ≤ n.a2 ∧ n.a2 < a) ∧ (n.len ≤ 2 → n.a2 = 0)) : ∀ j : Nat, j < 3 → ((j : Int) < n.len → 0 ≤ n.arg j ∧ n.arg j < a) ∧ (n.len ≤ j → n.arg j = 0) := by
  intro j hj
  match j, hj with
  | 0, _ => exact h0
  | 1, _ => exact h1
  | 2, _ => exact h2
theorem eq_stands {x y a : Int} (hx : 0 ≤ x ∧ x < a) (hy : 0 ≤ y ∧ y < a) : Stands (eqNd x y) a := by
  refine ⟨⟨2, 2, by show arityM 6 = _; decide, Int.le_refl _, Int.le_refl _⟩, by show (0 : Int) ≤ 0 ∧ (0 : Int) < 6; decide, args3 ⟨fun _ => hx, fun h => ?_⟩ ⟨fun _ => hy, fun h => ?_⟩ ⟨fun h => ?_, fun _ => rfl⟩, by show (0 : Int) ≤ 0 ∧ (0 : Int) < 12 ∧ _; exact ⟨by decide, by decide, fun h => absurd h (by show ¬ (0 : Int) < 0; decide)⟩, fun h => ?_, fun _ => rfl⟩
  · exact absurd h (by show ¬ (2 : Int) ≤ 0; decide)
  · exact absurd h (by show ¬ (2 : Int) ≤ 1; decide)
  · exact absurd h (by show ¬ (2 : Int) < 2; decide)
  · exact absurd h (by show ¬ ((6 : Int) = 10 ∨ (6 : Int) = 11 ∨ (6 : Int) = 12); decide)
theorem diff_stands {x y d a : Int} (hx : 0 ≤ x ∧ x < a) (hy : 0 ≤ y ∧ y < a) (hd : mayI d = true) : Stands (diffNd x y d) a := by
  refine ⟨⟨2, 2, by show arityM 12 = _; decide, Int.le_refl _, Int.le_refl _⟩, by show (0 : Int) ≤ 0 ∧ (0 : Int) < 6; decide, args3 ⟨fun _ => hx, fun h => ?_⟩ ⟨fun _ => hy, fun h => ?_⟩ ⟨fun h => ?_, fun _ => rfl⟩, by show (0 : Int) ≤ 0 ∧ (0 : Int) < 12 ∧ _; exact ⟨by decide, by decide, fun h => absurd h (by show ¬ (0 : Int) < 0; decide)⟩, fun _ => mayI_iff.1 hd, fun h => ?_⟩
  · exact absurd h (by show ¬ (2 : Int) ≤ 0; decide)
  · exact absurd h (by show ¬ (2 : Int) ≤ 1; decide)
  · exact absurd h (by show ¬ (2 : Int) < 2; decide)
  · exact absurd h (by show ¬ ¬ ((12 : Int) = 10 ∨ (12 : Int) = 11 ∨ (12 : Int) = 12); decide)
structure LaidP (T : List Nd) (x y : Int) : Prop where
  eq : eqNd x y ∈ T
  may : mayI (difN T x y) = true
  dif : (baseT T x).1 = (baseT T y).1 ∨ ((baseT T x).1 ≠ (baseT T y).1 ∧ diffNd (baseT T x).1 (baseT T y).1 (difN T x y) ∈ T ∧ diffNd (baseT T y).1 (baseT T x).1 (difN T y x) ∈ T)
theorem baseT_grew {T T' : List Nd} (h : Grew T T') {x : Int} (hx : Shd T x) : baseT T' x = baseT T x := by
  obtain ⟨S, rfl, _⟩ := h.ext
  exact baseT_append hx.lo hx.hi
theorem difN_grew {T T' : List Nd} (h : Grew T T') {x y : Int} (hx : Shd T x) (hy : Shd T y) : difN T' x y = difN T x y := by
  unfold difN
  rw [baseT_grew h hx, baseT_grew h hy]
theorem Grew.mem {T T' : List Nd} (h : Grew T T') {n : Nd} (hn : n ∈ T) : n ∈ T' := by
  obtain ⟨S, rfl, _⟩ := h.ext
  exact List.mem_append.2 (.inl hn)
theorem LaidP.grew {T T' : List Nd} (h : Grew T T') {x y : Int} (hx : Shd T x) (hy : Shd T y) (hl : LaidP T x y) : LaidP T' x y := by
  refine ⟨h.mem hl.eq, by rw [difN_grew h hx hy]; exact hl.may, ?_⟩
  rw [baseT_grew h hx, baseT_grew h hy, difN_grew h hx hy, difN_grew h hy hx]
  exact hl.dif.imp id fun ⟨h0, h1, h2⟩ => ⟨h0, h.mem h1, h.mem h2⟩
theorem may_neg {T : List Nd} {x y : Int} (h : mayI (difN T x y) = true) : mayI (difN T y x) = true := by
  rw [mayI_iff] at h ⊢
  unfold difN at *
  omega
theorem leT_shd {T : List Nd} (hc : CoreT T) (hs : SumT T) {x y : Int} (hx : Shd T x) (hy : Shd T y) (most : Int) (hm : mayI (difN T x y) = true) (hb : (baseT T x).1 ≠ (baseT T y).1) :
    leT T x y 0 most = ⟨(putT T (diffNd (baseT T x).1 (baseT T y).1 (difN T x y)) most).T, (putT T (diffNd (baseT T x).1 (baseT T y).1 (difN T x y)) most).id, decide ((putT T (diffNd (baseT T x).1 (baseT T y).1 (difN T x y)) most).e = 0), (putT T (diffNd (baseT T x).1 (baseT T y).1 (difN T x y)) most).e⟩ := by
  have hd := diffT_shd hc hs hx hy
  rw [if_pos hm] at hd
  unfold leT
  simp only [hd]
  rw [if_neg (by simp), if_pos hb]
theorem diff_put {T : List Nd} (hc : CoreT T) (hs : SumT T) {x y : Int} (hx : Shd T x) (hy : Shd T y) (most : Int) (hm : mayI (difN T x y) = true) (hb : (baseT T x).1 ≠ (baseT T y).1) :
    ((putT T (diffNd (baseT T x).1 (baseT T y).1 (difN T x y)) most).e = 0 ∧ Grew T (putT T (diffNd (baseT T x).1 (baseT T y).1 (difN T x y)) most).T ∧ diffNd (baseT T x).1 (baseT T y).1 (difN T x y) ∈ (putT T (diffNd (baseT T x).1 (baseT T y).1 (difN T x y)) most).T) ∨
    ((putT T (diffNd (baseT T x).1 (baseT T y).1 (difN T x y)) most).e = 40 ∧ (putT T (diffNd (baseT T x).1 (baseT T y).1 (difN T x y)) most).T = []) := by
  have bx := base_own hc hs hx
  have hby := base_own hc hs hy
  have hst : Stands (diffNd (baseT T x).1 (baseT T y).1 (difN T x y)) T.length := diff_stands ⟨bx.2.1, bx.2.2.1⟩ ⟨hby.2.1, hby.2.2.1⟩ hm
  rcases putT_err (most := most) hc.ok hst with he | he
  · refine .inl ⟨he, putT_grew hc (fun h => absurd h (by show (12 : Int) ≠ 11; decide)) ?_ (by show (12 : Int) ≠ 13; decide) (by show (12 : Int) ≠ 11; decide) rfl he⟩
    show fitB T (diffNd _ _ _) = true
    unfold fitB diffNd
    simp [bx.1, hby.1, hb]
  · exact .inr he
theorem eq_put {T : List Nd} (hc : CoreT T) {x y : Int} (hx : Shd T x) (hy : Shd T y) (hxy : x < y) (most : Int) :
    ((putT T (eqNd x y) most).e = 0 ∧ Grew T (putT T (eqNd x y) most).T ∧ eqNd x y ∈ (putT T (eqNd x y) most).T) ∨ ((putT T (eqNd x y) most).e = 40 ∧ (putT T (eqNd x y) most).T = []) := by
  have hst : Stands (eqNd x y) T.length := eq_stands ⟨hx.lo, hx.hi⟩ ⟨hy.lo, hy.hi⟩
  rcases putT_err (most := most) hc.ok hst with he | he
  · refine .inl ⟨he, putT_grew hc (fun h => absurd h (by show (6 : Int) ≠ 11; decide)) ?_ (by show (6 : Int) ≠ 13; decide) (by show (6 : Int) ≠ 11; decide) rfl he⟩
    unfold fitB eqNd
    simp [hx.sort, hy.sort, hxy]
  · exact .inr he
theorem layT_is {T : List Nd} (hc : CoreT T) (hs : SumT T) {x y : Int} (hx : Shd T x) (hy : Shd T y) (hxy : x < y) (most : Int) :
    ((layT T x y most).e = 0 ∧ Grew T (layT T x y most).T ∧ LaidP (layT T x y most).T x y) ∨ (((layT T x y most).e = 40 ∨ (layT T x y most).e = 10) ∧ (layT T x y most).T = []) := by
  unfold layT
  rcases eq_put hc hx hy hxy most with ⟨e1, g1, m1⟩ | ⟨e1, g1⟩
  rotate_left
  · rw [if_pos (by rw [e1]; decide)]
    exact .inr ⟨.inl e1, rfl⟩
  rw [if_neg (by rw [e1]; decide)]
  generalize (putT T (eqNd x y) most).T = T1 at *
  clear e1
  have hc1 := g1.core
  have hs1 := hs.grew g1 hc
  have hx1 := hx.mono g1
  have hy1 := hy.mono g1
  rw [diffT_shd hc1 hs1 hx1 hy1]
  by_cases hm : mayI (difN T1 x y) = true
  rotate_left
  · rw [if_neg hm]
    exact .inr ⟨.inr rfl, rfl⟩
  rw [if_pos hm]
  simp only [ne_eq, not_true_eq_false, if_false]
  by_cases hb : (baseT T1 x).1 = (baseT T1 y).1
  · rw [if_pos hb]
    exact .inl ⟨rfl, g1, m1, hm, .inl hb⟩
  rw [if_neg hb, leT_shd hc1 hs1 hx1 hy1 most hm hb]
  dsimp only
  rcases diff_put hc1 hs1 hx1 hy1 most hm hb with ⟨e2, g2, m2⟩ | ⟨e2, g2⟩
  rotate_left
  · rw [if_pos (by rw [e2]; decide)]
    exact .inr ⟨.inl e2, rfl⟩
  rw [if_neg (by rw [e2]; decide)]
  generalize (putT T1 (diffNd (baseT T1 x).1 (baseT T1 y).1 (difN T1 x y)) most).T = T2 at *
  clear e2
  have hc2 := g2.core
  have hs2 := hs1.grew g2 hc1
  have hx2 := hx1.mono g2
  have hy2 := hy1.mono g2
  have ebx := baseT_grew g2 hx1
  have eby := baseT_grew g2 hy1
  have edx := difN_grew g2 hx1 hy1
  have hm2 : mayI (difN T2 y x) = true := may_neg (by rw [edx]; exact hm)
  have hb2 : (baseT T2 y).1 ≠ (baseT T2 x).1 := by rw [ebx, eby]; exact fun e => hb e.symm
  rw [leT_shd hc2 hs2 hy2 hx2 most hm2 hb2]
  dsimp only
  rcases diff_put hc2 hs2 hy2 hx2 most hm2 hb2 with ⟨e3, g3, m3⟩ | ⟨e3, g3⟩
  rotate_left
  · exact .inr ⟨.inl e3, g3⟩
  refine .inl ⟨e3, (g1.trans g2).trans g3, g3.mem (g2.mem m1), ?_, .inr ⟨?_, ?_, ?_⟩⟩
  · rw [difN_grew g3 hx2 hy2, edx]
    exact hm
  · rw [baseT_grew g3 hx2, baseT_grew g3 hy2]
    exact fun e => hb2 e.symm
  · rw [baseT_grew g3 hx2, baseT_grew g3 hy2, difN_grew g3 hx2 hy2]
    have m2' : diffNd (baseT T2 x).1 (baseT T2 y).1 (difN T2 x y) ∈ T2 := by
      rw [ebx, eby, edx]
      exact m2
    exact g3.mem m2'
  · rw [baseT_grew g3 hx2, baseT_grew g3 hy2, difN_grew g3 hy2 hx2]
    exact m3
theorem laysT_is (most : Int) : ∀ {ps : List (Int × Int)} {T : List Nd}, CoreT T → SumT T → (∀ p ∈ ps, Shd T p.1 ∧ Shd T p.2 ∧ p.1 < p.2) →
    ((laysT ps T most).e = 0 ∧ Grew T (laysT ps T most).T ∧ ∀ p ∈ ps, LaidP (laysT ps T most).T p.1 p.2) ∨ (((laysT ps T most).e = 40 ∨ (laysT ps T most).e = 10) ∧ (laysT ps T most).T = [])
  | [], T, hc, _, _ => .inl ⟨rfl, .refl hc, fun p hp => by cases hp⟩
  | p :: r, T, hc, hs, hp => by
    obtain ⟨hx, hy, hxy⟩ := hp p (by simp)
    rw [laysT]
    rcases layT_is hc hs hx hy hxy most with ⟨e1, g1, l1⟩ | ⟨e1, g1⟩
    rotate_left
    · rw [if_pos (by rcases e1 with e | e <;> rw [e] <;> decide)]
      exact .inr ⟨e1, rfl⟩
    rw [if_neg (by rw [e1]; decide)]
    generalize (layT T p.1 p.2 most).T = T1 at *
    have hp1 : ∀ q ∈ r, Shd T1 q.1 ∧ Shd T1 q.2 ∧ q.1 < q.2 := fun q hq => by
      obtain ⟨h1, h2, h3⟩ := hp q (List.mem_cons_of_mem _ hq)
      exact ⟨h1.mono g1, h2.mono g1, h3⟩
    rcases laysT_is most g1.core (hs.grew g1 hc) hp1 with ⟨e2, g2, l2⟩ | h
    · refine .inl ⟨e2, g1.trans g2, fun q hq => ?_⟩
      rcases List.mem_cons.1 hq with rfl | hq
      · exact l1.grew g2 (hx.mono g1) (hy.mono g1)
      · exact l2 q hq
    · exact .inr h
theorem nodes_pairs {T : List Nd} {p : Int × Int} (h : p ∈ pairsL (nodesT T)) : Shd T p.1 ∧ Shd T p.2 ∧ p.1 < p.2 := by
  obtain ⟨h1, h2, h3⟩ := (mem_pairs (nodes_sorted T)).1 h
  exact ⟨(mem_nodes h1).1, (mem_nodes h2).1, h3⟩
theorem putS_is {T : List Nd} (hc : CoreT T) (hs : SumT T) (most : Int) :
    ((putS T most).e = 0 ∧ Grew T (putS T most).T ∧ (∀ p ∈ pairsL (nodesT T), LaidP (putS T most).T p.1 p.2) ∧ (nodesT T).length ≤ 12) ∨ (((putS T most).e = 40 ∨ (putS T most).e = 10) ∧ (putS T most).T = []) := by
  unfold putS
  rw [if_pos (coreB_iff.2 hc)]
  by_cases h : 12 < (nodesT T).length
  · rw [if_pos h]
    exact .inr ⟨.inl rfl, rfl⟩
  · rw [if_neg h]
    rcases laysT_is most hc hs (fun p hp => nodes_pairs hp) with ⟨e, g, l⟩ | h2
    · exact .inl ⟨e, g, l, by omega⟩
    · exact .inr h2
end Go.Proofs.YtlipnnibagidiaaGreat
namespace Go.Proofs.YtlipnnibagidiaaGreat
open Go.Lib
theorem keeps_iff (d : Array Int) (j : Nat) : keeps d j = true ↔ j = 0 ∨ d[j]! ≠ d[j - 1]! := by
  unfold keeps
  simp
theorem mem_compact {zs : List Int} (x : Int) : x ∈ compact zs ↔ x ∈ zs := by
  unfold compact compactUpTo
  rw [List.mem_map]
  constructor
  · rintro ⟨j, hj, rfl⟩
    have hj' := List.mem_range.1 (List.mem_filter.1 hj).1
    have e1 : zs.toArray[j]! = zs[j] := by simp [getElem!_pos, hj']
    rw [e1]
    exact List.getElem_mem hj'
  · intro hx
    have key : ∀ i : Nat, ∀ h : i < zs.length, zs[i] = x → ∃ j, j ∈ (List.range zs.length).filter (keeps zs.toArray) ∧ zs.toArray[j]! = x := by
      intro i
      induction i with
      | zero =>
        intro h hx
        refine ⟨0, List.mem_filter.2 ⟨List.mem_range.2 h, (keeps_iff _ _).2 (.inl rfl)⟩, ?_⟩
        rw [show zs.toArray[0]! = zs[0] by simp [getElem!_pos, h], hx]
      | succ i ih =>
        intro h hx
        by_cases he : zs[i] = x
        · exact ih (by omega) he
        · have e1 : zs.toArray[i + 1]! = zs[i + 1] := by simp [getElem!_pos, h]
          have e2 : zs.toArray[i + 1 - 1]! = zs[i] := by simp [getElem!_pos, show i < zs.length by omega]
          refine ⟨i + 1, List.mem_filter.2 ⟨List.mem_range.2 h, (keeps_iff _ _).2 (.inr ?_)⟩, ?_⟩
          · rw [e1, e2, hx]
            exact fun e => he e.symm
          · rw [e1, hx]
    obtain ⟨i, hi, e⟩ := List.mem_iff_getElem.1 hx
    exact key i hi e
theorem made_mem (l : List Int) (x : Int) : x ∈ compact (l.mergeSort fun x y => decide (x ≤ y)) ↔ x ∈ l := by
  rw [mem_compact, List.mem_mergeSort]
end Go.Proofs.YtlipnnibagidiaaGreat
namespace Go.Proofs.YtlipnnibagidiaaGreat
def makeM (l : List Int) : List Int := Lib.compact ((l.filter fun x => !decide (x < 0)).mergeSort fun x y => decide (x ≤ y))
theorem mem_make (l : List Int) (x : Int) : x ∈ makeM l ↔ x ∈ l ∧ 0 ≤ x := by
  unfold makeM
  rw [made_mem, List.mem_filter]
  simp
end Go.Proofs.YtlipnnibagidiaaGreat
