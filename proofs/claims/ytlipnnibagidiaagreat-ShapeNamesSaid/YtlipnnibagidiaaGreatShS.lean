/- The plain side of layer 26: offsets, what a core table is so far, shared nodes, laying. -/
import Derived.Test.YtlipnnibagidiaaGreatShP
namespace Go.Proofs.YtlipnnibagidiaaGreat

/-- A node at a place; outside, one that is none. -/
def ndAt (T : List Nd) (i : Int) : Nd := if i < 0 then ⟨-1, 0, 0, 0, 0, -1, 0, 0⟩ else T.getD i.toNat ⟨-1, 0, 0, 0, 0, -1, 0, 0⟩
theorem ndAt_nat {T : List Nd} {i : Nat} (h : i < T.length) : ndAt T i = T[i] := by
  unfold ndAt
  rw [if_neg (by omega), Int.toNat_natCast, List.getD_eq_getElem?_getD, List.getElem?_eq_getElem h]
  rfl
theorem ndAt_some {T : List Nd} {i : Nat} {n : Nd} (h : T[i]? = some n) : ndAt T i = n := by
  obtain ⟨h1, h2⟩ := List.getElem?_eq_some_iff.1 h
  rw [ndAt_nat h1, h2]
/-- In order: what a sum adds to is neither a sum nor a number, and no sum adds nought. -/
def ordB (T : List Nd) : Bool := T.all fun n => decide (n.op = 11 → n.num ≠ 0 ∧ (ndAt T n.a0).op ≠ 11 ∧ (ndAt T n.a0).op ≠ 10)
theorem ordB_iff {T : List Nd} : ordB T = true ↔ ∀ n ∈ T, n.op = 11 → n.num ≠ 0 ∧ (ndAt T n.a0).op ≠ 11 ∧ (ndAt T n.a0).op ≠ 10 := by
  unfold ordB
  simp only [List.all_eq_true, decide_eq_true_eq]
/-- A node's base, and its offset, in a table that is in order. -/
def baseT (T : List Nd) (id : Int) : Int × Int := if (ndAt T id).op = 11 then ((ndAt T id).a0, (ndAt T id).num) else if (ndAt T id).op = 10 then (1, (ndAt T id).num) else (id, 0)
structure OfR where
  b : Int
  n : Int
  e : Int
/-- Of, in a table that is in order. -/
def ofT (T : List Nd) (id : Int) : OfR := if tabB T && decide (0 ≤ id) && decide (id < T.length) then (if (ndAt T id).sort = 1 then ⟨(baseT T id).1, (baseT T id).2, 0⟩ else ⟨0, 0, 33⟩) else ⟨0, 0, 2⟩
def subN (a b : Int) : Int × Int := if mayI a && mayI b && mayI (a - b) then (a - b, 0) else (0, 10)
def addN (a b : Int) : Int × Int := if mayI a && mayI b && mayI (a + b) then (a + b, 0) else (0, 10)
structure DiffR where
  x : Int
  y : Int
  d : Int
  e : Int
def diffT (T : List Nd) (a b c : Int) : DiffR :=
  if (ofT T a).e ≠ 0 then ⟨0, 0, 0, (ofT T a).e⟩ else
  if (ofT T b).e ≠ 0 then ⟨0, 0, 0, (ofT T b).e⟩ else
  if (subN c (ofT T a).n).2 ≠ 0 then ⟨0, 0, 0, (subN c (ofT T a).n).2⟩ else
  if (addN (subN c (ofT T a).n).1 (ofT T b).n).2 ≠ 0 then ⟨0, 0, 0, (addN (subN c (ofT T a).n).1 (ofT T b).n).2⟩ else
  ⟨(ofT T a).b, (ofT T b).b, (addN (subN c (ofT T a).n).1 (ofT T b).n).1, 0⟩
def diffNd (x y d : Int) : Nd := ⟨12, 2, x, y, 0, 0, 0, d⟩
def notNd (a : Int) : Nd := ⟨1, 1, a, 0, 0, 0, 0, 0⟩
def eqNd (x y : Int) : Nd := ⟨6, 2, x, y, 0, 0, 0, 0⟩
structure LeR where
  T : List Nd
  id : Int
  is : Bool
  e : Int
def leT (T : List Nd) (a b c most : Int) : LeR :=
  if (diffT T a b c).e ≠ 0 then ⟨[], 0, false, (diffT T a b c).e⟩ else
  if (diffT T a b c).x ≠ (diffT T a b c).y then
    ⟨(putT T (diffNd (diffT T a b c).x (diffT T a b c).y (diffT T a b c).d) most).T, (putT T (diffNd (diffT T a b c).x (diffT T a b c).y (diffT T a b c).d) most).id, decide ((putT T (diffNd (diffT T a b c).x (diffT T a b c).y (diffT T a b c).d) most).e = 0), (putT T (diffNd (diffT T a b c).x (diffT T a b c).y (diffT T a b c).d) most).e⟩
  else if 0 ≤ (diffT T a b c).d then ⟨T, 0, false, 0⟩
  else ⟨(putT T (notNd 0) most).T, (putT T (notNd 0) most).id, false, (putT T (notNd 0) most).e⟩

/-! ### core so far, shared nodes -/
def ownB (T : List Nd) (id : Int) : Bool := decide ((baseT T id).1 = id) && decide ((ndAt T id).sort = 1)
def fitB (T : List Nd) (n : Nd) : Bool :=
  if n.op = 4 ∨ n.op = 5 ∨ n.op = 8 ∨ n.op = 9 then false
  else if n.op = 1 then decide ((ndAt T n.a0).op ≠ 1)
  else if n.op = 6 then (if (ndAt T n.a0).sort = 1 then decide (n.a0 < n.a1) && decide ((ndAt T n.a1).sort = 1) else decide ((ndAt T n.a0).sort = 0) || decide (n.a0 ≠ n.a1))
  else if n.op = 12 then decide (n.a0 ≠ n.a1) && ownB T n.a0 && ownB T n.a1
  else true
def coreB (T : List Nd) : Bool := tabB T && ordB T && T.all (fitB T)
def sharedB (T : List Nd) (i : Nat) : Bool :=
  (decide ((ndAt T i).op = 13) && decide (0 < (ndAt T i).len) && decide ((ndAt T i).sort = 1)) ||
  (decide ((ndAt T i).sort = 1) && T.any fun n => decide (n.op = 13) && ((decide (0 < n.len) && decide (n.a0 = i)) || (decide (1 < n.len) && decide (n.a1 = i)) || (decide (2 < n.len) && decide (n.a2 = i))))
def nodesT (T : List Nd) : List Int := ((List.range T.length).filter (sharedB T)).map fun (i : Nat) => (i : Int)
structure LayR where
  T : List Nd
  e : Int
/-- What two shared nodes need, laid. -/
def layT (T : List Nd) (x y most : Int) : LayR :=
  if (putT T (eqNd x y) most).e ≠ 0 then ⟨[], (putT T (eqNd x y) most).e⟩ else
  if (diffT (putT T (eqNd x y) most).T x y 0).e ≠ 0 then ⟨[], (diffT (putT T (eqNd x y) most).T x y 0).e⟩ else
  if (diffT (putT T (eqNd x y) most).T x y 0).x = (diffT (putT T (eqNd x y) most).T x y 0).y then ⟨(putT T (eqNd x y) most).T, 0⟩ else
  if (leT (putT T (eqNd x y) most).T x y 0 most).e ≠ 0 then ⟨[], (leT (putT T (eqNd x y) most).T x y 0 most).e⟩ else
  ⟨(leT (leT (putT T (eqNd x y) most).T x y 0 most).T y x 0 most).T, (leT (leT (putT T (eqNd x y) most).T x y 0 most).T y x 0 most).e⟩
def pairsL : List Int → List (Int × Int)
  | [] => []
  | x :: r => r.map (fun y => (x, y)) ++ pairsL r
def laysT : List (Int × Int) → List Nd → Int → LayR
  | [], T, _ => ⟨T, 0⟩
  | p :: r, T, most => if (layT T p.1 p.2 most).e ≠ 0 then ⟨[], (layT T p.1 p.2 most).e⟩ else laysT r (layT T p.1 p.2 most).T most
def putS (T : List Nd) (most : Int) : LayR := if coreB T then (if 12 < (nodesT T).length then ⟨[], 40⟩ else laysT (pairsL (nodesT T)) T most) else ⟨[], 2⟩

/-! ### the table of wakes -/
def shW : List Nd := [trueNd, zeroNd, ⟨13, 0, 0, 0, 0, 1, 0, 0⟩, ⟨11, 1, 2, 0, 0, 1, 0, 1⟩, ⟨13, 1, 2, 0, 0, 0, 1, 0⟩, ⟨13, 1, 3, 0, 0, 0, 1, 0⟩]
theorem shW_core : coreB shW = true := by decide +kernel
theorem shW_nodes : nodesT shW = [2, 3] := by decide +kernel
theorem shW_put : (putS shW 20).e = 0 ∧ (putS shW 20).T = shW ++ [eqNd 2 3] := by decide +kernel
end Go.Proofs.YtlipnnibagidiaaGreat

/- The plain side of layers 12 and 26: core tables that grow. -/
namespace Go.Proofs.YtlipnnibagidiaaGreat

theorem ndAt_append {T S : List Nd} {i : Int} (h0 : 0 ≤ i) (h : i < T.length) : ndAt (T ++ S) i = ndAt T i := by
  obtain ⟨k, rfl⟩ : ∃ k : Nat, i = k := ⟨i.toNat, by omega⟩
  have hk : k < T.length := by omega
  rw [ndAt_nat hk, ndAt_nat (by rw [List.length_append]; omega), List.getElem_append_left hk]
theorem ndAt_last {T : List Nd} {n : Nd} : ndAt (T ++ [n]) T.length = n := by
  rw [ndAt_nat (by simp)]
  simp
theorem ndAt_mem {T : List Nd} {i : Int} (h0 : 0 ≤ i) (h : i < T.length) : ndAt T i ∈ T := by
  obtain ⟨k, rfl⟩ : ∃ k : Nat, i = k := ⟨i.toNat, by omega⟩
  rw [ndAt_nat (by omega)]
  exact List.getElem_mem _
theorem mem_ndAt {T : List Nd} {n : Nd} (h : n ∈ T) : ∃ i : Nat, i < T.length ∧ ndAt T i = n := by
  obtain ⟨i, hi, rfl⟩ := List.mem_iff_getElem.1 h
  exact ⟨i, hi, ndAt_nat hi⟩
/-- An argument of a node that stands. -/
theorem Stands.arg_lt {n : Nd} {a : Int} (h : Stands n a) (j : Nat) (hj : j < 3) (hl : (j : Int) < n.len) : 0 ≤ n.arg j ∧ n.arg j < a := (h.args j hj).1 hl
theorem Stands.len_of {n : Nd} {a lo : Int} (h : Stands n a) (hA : arityM n.op = some (lo, lo)) : n.len = lo := by
  obtain ⟨x, y, e, h1, h2⟩ := h.ar
  rw [hA] at e
  injection e with e
  injection e with e1 e2
  omega
theorem Stands.two {n : Nd} {a : Int} (h : Stands n a) (ho : n.op = 6 ∨ n.op = 12 ∨ n.op = 2 ∨ n.op = 3) : (0 ≤ n.a0 ∧ n.a0 < a) ∧ (0 ≤ n.a1 ∧ n.a1 < a) := by
  have hl : n.len = 2 := h.len_of (by rcases ho with e | e | e | e <;> rw [e] <;> decide)
  exact ⟨h.arg_lt 0 (by omega) (by rw [hl]; decide), h.arg_lt 1 (by omega) (by rw [hl]; decide)⟩
theorem Stands.one {n : Nd} {a : Int} (h : Stands n a) (ho : n.op = 1 ∨ n.op = 11) : 0 ≤ n.a0 ∧ n.a0 < a := by
  have hl : n.len = 1 := h.len_of (by rcases ho with e | e <;> rw [e] <;> decide)
  exact h.arg_lt 0 (by omega) (by rw [hl]; decide)
theorem TabOk.stands {T : List Nd} (h : TabOk T) {n : Nd} (hn : n ∈ T) : ∃ i : Nat, i < T.length ∧ T[i]? = some n ∧ Stands n i := by
  obtain ⟨i, hi, rfl⟩ := List.mem_iff_getElem.1 hn
  exact ⟨i, hi, List.getElem?_eq_getElem hi, h.st i _ (List.getElem?_eq_getElem hi)⟩
theorem baseT_append {T S : List Nd} {i : Int} (h0 : 0 ≤ i) (h : i < T.length) : baseT (T ++ S) i = baseT T i := by
  unfold baseT
  rw [ndAt_append h0 h]
/-- Of order, of one node. -/
def ordN (T : List Nd) (n : Nd) : Prop := n.op = 11 → n.num ≠ 0 ∧ (ndAt T n.a0).op ≠ 11 ∧ (ndAt T n.a0).op ≠ 10
theorem ordN_append {T S : List Nd} {n : Nd} {a : Int} (hs : Stands n a) (ha : a ≤ T.length) : ordN (T ++ S) n ↔ ordN T n := by
  unfold ordN
  constructor
  · intro h ho
    have h1 := hs.one (.inr ho)
    have := h ho
    rwa [ndAt_append h1.1 (by omega)] at this
  · intro h ho
    have h1 := hs.one (.inr ho)
    rw [ndAt_append h1.1 (by omega)]
    exact h ho
theorem ownB_append {T S : List Nd} {i : Int} (h0 : 0 ≤ i) (h : i < T.length) : ownB (T ++ S) i = ownB T i := by
  unfold ownB
  rw [baseT_append h0 h, ndAt_append h0 h]
theorem fitB_append {T S : List Nd} {n : Nd} {a : Int} (hs : Stands n a) (ha : a ≤ T.length) : fitB (T ++ S) n = fitB T n := by
  unfold fitB
  by_cases h1 : n.op = 1
  · have := hs.one (.inl h1)
    rw [ndAt_append this.1 (by omega)]
    simp only [h1]
    rfl
  by_cases h6 : n.op = 6
  · have := hs.two (.inl h6)
    rw [ndAt_append this.1.1 (by omega), ndAt_append this.2.1 (by omega)]
    simp only [h6]
    rfl
  by_cases h12 : n.op = 12
  · have := hs.two (.inr (.inl h12))
    rw [ownB_append this.1.1 (by omega), ownB_append this.2.1 (by omega)]
    simp only [h12]
    rfl
  · simp only [h1, h6, h12, if_false]
/-- What a core table is so far. -/
structure CoreT (T : List Nd) : Prop where
  ok : TabOk T
  ord : ∀ n ∈ T, ordN T n
  fit : ∀ n ∈ T, fitB T n = true
theorem coreB_iff {T : List Nd} : coreB T = true ↔ CoreT T := by
  unfold coreB
  rw [Bool.and_eq_true, Bool.and_eq_true, tabB_iff, ordB_iff, List.all_eq_true]
  exact ⟨fun ⟨⟨h1, h2⟩, h3⟩ => ⟨h1, h2, h3⟩, fun ⟨h1, h2, h3⟩ => ⟨⟨h1, h2⟩, h3⟩⟩
theorem CoreT.push {T : List Nd} (h : CoreT T) {n : Nd} (hs : Stands n T.length) (hn : n ∉ T) (ho : ordN T n) (hf : fitB T n = true) : CoreT (T ++ [n]) := by
  refine ⟨h.ok.push hs hn, fun m hm => ?_, fun m hm => ?_⟩
  · rcases List.mem_append.1 hm with hm | hm
    · obtain ⟨i, hi, _, hst⟩ := h.ok.stands hm
      exact (ordN_append hst (by omega)).2 (h.ord m hm)
    · obtain rfl := List.mem_singleton.1 hm
      exact (ordN_append hs (by omega)).2 ho
  · rcases List.mem_append.1 hm with hm | hm
    · obtain ⟨i, hi, _, hst⟩ := h.ok.stands hm
      rw [fitB_append hst (by omega)]
      exact h.fit m hm
    · obtain rfl := List.mem_singleton.1 hm
      rw [fitB_append hs (by omega)]
      exact hf
/-- A table that grew by nodes that are no applications, no sums, no Ints. -/
structure Grew (T T' : List Nd) : Prop where
  core : CoreT T'
  ext : ∃ S, T' = T ++ S ∧ ∀ n ∈ S, n.op ≠ 13 ∧ n.op ≠ 11 ∧ n.sort = 0
theorem Grew.refl {T : List Nd} (h : CoreT T) : Grew T T := ⟨h, [], by simp, fun n hn => by cases hn⟩
theorem Grew.trans {T T' T2 : List Nd} (h : Grew T T') (k : Grew T' T2) : Grew T T2 := by
  obtain ⟨S, rfl, h2⟩ := h.ext
  obtain ⟨S2, rfl, k2⟩ := k.ext
  exact ⟨k.core, S ++ S2, by rw [List.append_assoc], fun n hn => (List.mem_append.1 hn).elim (h2 n) (k2 n)⟩
theorem Grew.len {T T' : List Nd} (h : Grew T T') : T.length ≤ T'.length := by
  obtain ⟨S, rfl, _⟩ := h.ext
  rw [List.length_append]
  omega
theorem Grew.at_ {T T' : List Nd} (h : Grew T T') {i : Int} (h0 : 0 ≤ i) (h1 : i < T.length) : ndAt T' i = ndAt T i := by
  obtain ⟨S, rfl, _⟩ := h.ext
  exact ndAt_append h0 h1
/-- A put of a node that fits. -/
theorem putT_grew {T : List Nd} (h : CoreT T) {n : Nd} {most : Int} (ho : ordN T n) (hf : fitB T n = true) (h13 : n.op ≠ 13) (h11 : n.op ≠ 11) (hs : n.sort = 0) (he : (putT T n most).e = 0) : Grew T (putT T n most).T ∧ n ∈ (putT T n most).T := by
  obtain ⟨_, hst, _, ⟨k, _, hk⟩, _⟩ := putT_ok he
  have hmem : n ∈ (putT T n most).T := List.mem_of_getElem? hk
  refine ⟨?_, hmem⟩
  unfold putT at he ⊢
  by_cases h1 : (tabB T && standsB n T.length) = true
  · rw [if_pos h1] at he ⊢
    by_cases h2 : n ∈ T
    · rw [if_pos h2]
      exact .refl h
    · rw [if_neg h2] at he ⊢
      by_cases h3 : most ≤ (T.length : Int)
      · rw [if_pos h3] at he
        cases he
      · rw [if_neg h3]
        exact ⟨h.push hst h2 ho hf, [n], rfl, fun m hm => by rw [List.mem_singleton] at hm; rw [hm]; exact ⟨h13, h11, hs⟩⟩
  · rw [if_neg h1] at he
    cases he
/-- A put of a node that is there. -/
theorem putT_there {T : List Nd} (h : TabOk T) {n : Nd} {most : Int} (hn : n ∈ T) (hs : Stands n T.length) : (putT T n most).T = T ∧ (putT T n most).e = 0 := by
  unfold putT
  rw [if_pos (by rw [Bool.and_eq_true, tabB_iff, standsB_iff]; exact ⟨h, hs⟩), if_pos hn]
  exact ⟨rfl, rfl⟩
theorem putT_err {T : List Nd} (h : TabOk T) {n : Nd} {most : Int} (hs : Stands n T.length) : (putT T n most).e = 0 ∨ ((putT T n most).e = 40 ∧ (putT T n most).T = []) := by
  unfold putT
  rw [if_pos (by rw [Bool.and_eq_true, tabB_iff, standsB_iff]; exact ⟨h, hs⟩)]
  split
  · exact .inl rfl
  · split
    · exact .inr ⟨rfl, rfl⟩
    · exact .inl rfl
end Go.Proofs.YtlipnnibagidiaaGreat

/- The plain side of layer 26: what laying leaves. -/
namespace Go.Proofs.YtlipnnibagidiaaGreat

theorem sharedB_grew {T T' : List Nd} (h : Grew T T') (i : Nat) : sharedB T' i = (decide (i < T.length) && sharedB T i) := by
  obtain ⟨S, rfl, hS⟩ := h.ext
  have hany : ∀ p : Nd → Bool, (∀ n ∈ S, p n = false) → (T ++ S).any p = T.any p := fun p hp => by
    have h0 : S.any p = false := List.any_eq_false.2 fun n hn => by rw [hp n hn]; simp
    rw [List.any_append, h0, Bool.or_false]
  by_cases hi : i < T.length
  · unfold sharedB
    rw [ndAt_append (by omega) (by omega), hany _ (fun n hn => by simp [(hS n hn).1])]
    simp [hi]
  · have h0 : (ndAt (T ++ S) i).sort ≠ 1 := by
      by_cases h2 : i < (T ++ S).length
      · rw [ndAt_nat h2, List.getElem_append_right (by omega)]
        have := (hS _ (List.getElem_mem (l := S) (n := i - T.length) (by rw [List.length_append] at h2; omega))).2.2
        omega
      · unfold ndAt
        rw [if_neg (by omega), Int.toNat_natCast, List.getD_eq_getElem?_getD, List.getElem?_eq_none (by omega)]
        decide
    unfold sharedB
    simp [h0, hi]
theorem nodesT_grew {T T' : List Nd} (h : Grew T T') : nodesT T' = nodesT T := by
  have hl := h.len
  unfold nodesT
  congr 1
  rw [show T'.length = T.length + (T'.length - T.length) by omega, List.range_add, List.filter_append]
  have h1 : (List.range T.length).filter (sharedB T') = (List.range T.length).filter (sharedB T) := List.filter_congr fun i hi => by
    rw [sharedB_grew h, decide_eq_true (List.mem_range.1 hi), Bool.true_and]
  have h2 : ((List.range (T'.length - T.length)).map (fun x => T.length + x)).filter (sharedB T') = [] := List.filter_eq_nil_iff.2 fun i hi => by
    obtain ⟨k, _, rfl⟩ := List.mem_map.1 hi
    rw [sharedB_grew h, decide_eq_false (by omega)]
    simp
  rw [h1, h2, List.append_nil]
/-- A shared node. -/
structure Shd (T : List Nd) (x : Int) : Prop where
  lo : 0 ≤ x
  hi : x < T.length
  sort : (ndAt T x).sort = 1
theorem mem_nodes {T : List Nd} {x : Int} (h : x ∈ nodesT T) : Shd T x ∧ sharedB T x.toNat = true := by
  unfold nodesT at h
  obtain ⟨i, hi, rfl⟩ := List.mem_map.1 h
  obtain ⟨h1, h2⟩ := List.mem_filter.1 hi
  refine ⟨⟨by omega, by have := List.mem_range.1 h1; omega, ?_⟩, by rw [Int.toNat_natCast]; exact h2⟩
  unfold sharedB at h2
  simp only [Bool.or_eq_true, Bool.and_eq_true, decide_eq_true_eq] at h2
  rcases h2 with ⟨_, h⟩ | ⟨h, _⟩ <;> exact h
theorem nodes_mem {T : List Nd} {i : Nat} (h : i < T.length) (hs : sharedB T i = true) : (i : Int) ∈ nodesT T := List.mem_map.2 ⟨i, List.mem_filter.2 ⟨List.mem_range.2 h, hs⟩, rfl⟩
theorem nodes_sorted (T : List Nd) : (nodesT T).Pairwise (· < ·) := by
  unfold nodesT
  rw [List.pairwise_map]
  exact (List.Pairwise.filter _ List.pairwise_lt_range).imp fun h => by omega
theorem mem_pairs : ∀ {l : List Int} {p : Int × Int}, l.Pairwise (· < ·) → (p ∈ pairsL l ↔ p.1 ∈ l ∧ p.2 ∈ l ∧ p.1 < p.2)
  | [], p, _ => by simp [pairsL]
  | x :: r, p, h => by
    obtain ⟨h1, h2⟩ := List.pairwise_cons.1 h
    rw [pairsL, List.mem_append, mem_pairs h2, List.mem_map]
    constructor
    · rintro (⟨y, hy, rfl⟩ | ⟨h3, h4, h5⟩)
      · exact ⟨by simp, by simp [hy], h1 y hy⟩
      · exact ⟨List.mem_cons_of_mem _ h3, List.mem_cons_of_mem _ h4, h5⟩
    · rintro ⟨h3, h4, h5⟩
      rcases List.mem_cons.1 h3 with e | h3
      · rcases List.mem_cons.1 h4 with e2 | h4
        · omega
        · exact .inl ⟨p.2, h4, by rw [← e]⟩
      · rcases List.mem_cons.1 h4 with e2 | h4
        · have := h1 _ h3
          omega
        · exact .inr ⟨h3, h4, h5⟩

/-- Whether sums are of Ints (what else fits does not matter here). -/
def SumT (T : List Nd) : Prop := ∀ n ∈ T, n.op = 11 → (ndAt T n.a0).sort = 1
theorem Shd.mono {T T' : List Nd} (h : Grew T T') {x : Int} (hx : Shd T x) : Shd T' x := ⟨hx.lo, by have := h.len; have := hx.hi; omega, by rw [h.at_ hx.lo hx.hi]; exact hx.sort⟩
theorem SumT.grew {T T' : List Nd} (h : Grew T T') (hs : SumT T) (hc : CoreT T) : SumT T' := fun n hn ho => by
  have hn' : n ∈ T := by
    obtain ⟨S, rfl, hS⟩ := h.ext
    rcases List.mem_append.1 hn with hn | hn
    · exact hn
    · exact absurd ho (hS n hn).2.1
  obtain ⟨i, hi, _, hst⟩ := hc.ok.stands hn'
  have h1 := hst.one (.inr ho)
  rw [h.at_ h1.1 (by omega)]
  exact hs n hn' ho
/-- The base of an Int node. -/
theorem base_own {T : List Nd} (hc : CoreT T) (hs : SumT T) {x : Int} (hx : Shd T x) : ownB T (baseT T x).1 = true ∧ 0 ≤ (baseT T x).1 ∧ (baseT T x).1 < T.length ∧ mayI (baseT T x).2 = true := by
  have hm := ndAt_mem hx.lo hx.hi
  obtain ⟨i, hi, _, hst⟩ := hc.ok.stands hm
  have h2 := hc.ok.len
  by_cases h11 : (ndAt T x).op = 11
  · have h1 := hst.one (.inr h11)
    have ho := hc.ord _ hm h11
    have e : baseT T x = ((ndAt T x).a0, (ndAt T x).num) := by unfold baseT; rw [if_pos h11]
    rw [e]
    refine ⟨?_, h1.1, by omega, mayI_iff.2 (hst.numb.1 (.inr (.inl h11)))⟩
    unfold ownB baseT
    rw [if_neg ho.2.1, if_neg ho.2.2]
    simp [hs _ hm h11]
  · by_cases h10 : (ndAt T x).op = 10
    · have e : baseT T x = (1, (ndAt T x).num) := by unfold baseT; rw [if_neg h11, if_pos h10]
      rw [e]
      refine ⟨?_, by show (0 : Int) ≤ 1; decide, by show (1 : Int) < _; omega, mayI_iff.2 (hst.numb.1 (.inl h10))⟩
      have h1 : ndAt T 1 = zeroNd := ndAt_some (i := 1) hc.ok.t1
      show ownB T 1 = true
      unfold ownB baseT
      rw [h1]
      decide
    · have e : baseT T x = (x, 0) := by unfold baseT; rw [if_neg h11, if_neg h10]
      rw [e]
      refine ⟨?_, hx.lo, hx.hi, by show mayI 0 = true; decide⟩
      unfold ownB
      rw [e]
      simp [hx.sort]
theorem ofT_shd {T : List Nd} (hc : TabOk T) {x : Int} (hx : Shd T x) : ofT T x = ⟨(baseT T x).1, (baseT T x).2, 0⟩ := by
  unfold ofT
  rw [if_pos (by simp [tabB_iff.2 hc, hx.lo, hx.hi]), if_pos hx.sort]
/-- The difference of two shared nodes. -/
def difN (T : List Nd) (x y : Int) : Int := (baseT T y).2 - (baseT T x).2
theorem diffT_shd {T : List Nd} (hc : CoreT T) (hs : SumT T) {x y : Int} (hx : Shd T x) (hy : Shd T y) :
    diffT T x y 0 = if mayI (difN T x y) = true then ⟨(baseT T x).1, (baseT T y).1, difN T x y, 0⟩ else ⟨0, 0, 0, 10⟩ := by
  have mx := (base_own hc hs hx).2.2.2
  have my := (base_own hc hs hy).2.2.2
  have m0 : mayI 0 = true := by decide
  have m1 : mayI (0 - (baseT T x).2) = true := by
    rw [mayI_iff] at mx ⊢
    omega
  have e1 : subN 0 (baseT T x).2 = (0 - (baseT T x).2, 0) := by unfold subN; rw [if_pos (by simp [m0, mx]; simpa using m1)]
  unfold diffT
  rw [ofT_shd hc.ok hx, ofT_shd hc.ok hy]
  simp only [e1]
  have e2 : 0 - (baseT T x).2 + (baseT T y).2 = difN T x y := by unfold difN; omega
  unfold addN
  rw [e2]
  by_cases hm : mayI (difN T x y) = true
  · rw [if_pos (show (mayI (0 - (baseT T x).2) && mayI (baseT T y).2 && mayI (difN T x y)) = true by rw [m1, my, hm]; rfl), if_pos hm]
    simp
  · rw [if_neg (show ¬ (mayI (0 - (baseT T x).2) && mayI (baseT T y).2 && mayI (difN T x y)) = true by rw [m1, my]; simpa using hm), if_neg hm]
    simp
end Go.Proofs.YtlipnnibagidiaaGreat
