/- What is made of literals (clause.Make), plainly. -/
import Derived.Test.YtlipnnibagidiaaGreatShP
import Derived.Lib.SlicesCompact
namespace Go.Proofs.YtlipnnibagidiaaGreat
def ndAt (T : List Nd) (i : Int) : Nd := if i < 0 then ⟨-1, 0, 0, 0, 0, -1, 0, 0⟩ else T.getD i.toNat ⟨-1, 0, 0, 0, 0, -1, 0, 0⟩
theorem ndAt_nat {T : List Nd} {i : Nat} (h : i < T.length) : ndAt T i = T[i] := by
  unfold ndAt
  rw [if_neg (by omega), Int.toNat_natCast, List.getD_eq_getElem?_getD, List.getElem?_eq_getElem h]
  rfl
theorem ndAt_some {T : List Nd} {i : Nat} {n : Nd} (h : T[i]? = some n) : ndAt T i = n := by
  obtain ⟨h1, h2⟩ := List.getElem?_eq_some_iff.1 h
  rw [ndAt_nat h1, h2]
def ordB (T : List Nd) : Bool := T.all fun n => decide (n.op = 11 → n.num ≠ 0 ∧ (ndAt T n.a0).op ≠ 11 ∧ (ndAt T n.a0).op ≠ 10)
theorem ordB_iff {T : List Nd} : ordB T = true ↔ ∀ n ∈ T, n.op = 11 → n.num ≠ 0 ∧ (ndAt T n.a0).op ≠ 11 ∧ (ndAt T n.a0).op ≠ 10 := by
  unfold ordB
  simp only [List.all_eq_true, decide_eq_true_eq]
def baseT (T : List Nd) (id : Int) : Int × Int := if (ndAt T id).op = 11 then ((ndAt T id).a0, (ndAt T id).num) else if (ndAt T id).op = 10 then (1, (ndAt T id).num) else (id, 0)
structure OfR where
  b : Int
  n : Int
  e : Int
def ofT (T : List Nd) (id : Int) : OfR := if tabB T && decide (0 ≤ id) && decide (id < T.length) then (if (ndAt T id).sort = 1 then ⟨(baseT T id).1, (baseT T id).2, 0⟩ else ⟨0, 0, 33⟩) else ⟨0, 0, 2⟩
def subN (a b : Int) : Int × Int := if mayI a && mayI b && mayI (a - b) then (a - b, 0) else (0, 10)
def addN (a b : Int) : Int × Int := if mayI a && mayI b && mayI (a + b) then (a + b, 0) else (0, 10)
structure DiffR where
  x : Int
  y : Int
  d : Int
  e : Int
def diffT (T : List Nd) (a b c : Int) : DiffR :=
  if (ofT T a).e ≠ 0 then ⟨0, 0, 0, (ofT T a).e⟩ else
  if (ofT T b).e ≠ 0 then ⟨0, 0, 0, (ofT T b).e⟩ else
  if (subN c (ofT T a).n).2 ≠ 0 then ⟨0, 0, 0, (subN c (ofT T a).n).2⟩ else
  if (addN (subN c (ofT T a).n).1 (ofT T b).n).2 ≠ 0 then ⟨0, 0, 0, (addN (subN c (ofT T a).n).1 (ofT T b).n).2⟩ else
  ⟨(ofT T a).b, (ofT T b).b, (addN (subN c (ofT T a).n).1 (ofT T b).n).1, 0⟩
def diffNd (x y d : Int) : Nd := ⟨12, 2, x, y, 0, 0, 0, d⟩
def notNd (a : Int) : Nd := ⟨1, 1, a, 0, 0, 0, 0, 0⟩
def eqNd (x y : Int) : Nd := ⟨6, 2, x, y, 0, 0, 0, 0⟩
structure LeR where
  T : List Nd
  id : Int
  is : Bool
  e : Int
def leT (T : List Nd) (a b c most : Int) : LeR :=
  if (diffT T a b c).e ≠ 0 then ⟨[], 0, false, (diffT T a b c).e⟩ else
  if (diffT T a b c).x ≠ (diffT T a b c).y then
    ⟨(putT T (diffNd (diffT T a b c).x (diffT T a b c).y (diffT T a b c).d) most).T, (putT T (diffNd (diffT T a b c).x (diffT T a b c).y (diffT T a b c).d) most).id, decide ((putT T (diffNd (diffT T a b c).x (diffT T a b c).y (diffT T a b c).d) most).e = 0), (putT T (diffNd (diffT T a b c).x (diffT T a b c).y (diffT T a b c).d) most).e⟩
  else if 0 ≤ (diffT T a b c).d then ⟨T, 0, false, 0⟩
  else ⟨(putT T (notNd 0) most).T, (putT T (notNd 0) most).id, false, (putT T (notNd 0) most).e⟩
def ownB (T : List Nd) (id : Int) : Bool := decide ((baseT T id).1 = id) && decide ((ndAt T id).sort = 1)
def fitB (T : List Nd) (n : Nd) : Bool :=
  if n.op = 4 ∨ n.op = 5 ∨ n.op = 8 ∨ n.op = 9 then false
  else if n.op = 1 then decide ((ndAt T n.a0).op ≠ 1)
  else if n.op = 6 then (if (ndAt T n.a0).sort = 1 then decide (n.a0 < n.a1) && decide ((ndAt T n.a1).sort = 1) else decide ((ndAt T n.a0).sort = 0) || decide (n.a0 ≠ n.a1))
  else if n.op = 12 then decide (n.a0 ≠ n.a1) && ownB T n.a0 && ownB T n.a1
  else true
def coreB (T : List Nd) : Bool := tabB T && ordB T && T.all (fitB T)
end Go.Proofs.YtlipnnibagidiaaGreat
namespace Go.Proofs.YtlipnnibagidiaaGreat
theorem ndAt_append {T S : List Nd} {i : Int} (h0 : 0 ≤ i) (h : i < T.length) : ndAt (T ++ S) i = ndAt T i := by
  obtain ⟨k, rfl⟩ : ∃ k : Nat, i = k := ⟨i.toNat, by omega⟩
  have hk : k < T.length := by omega
  rw [ndAt_nat hk, ndAt_nat (by rw [List.length_append]; omega), List.getElem_append_left hk]
theorem ndAt_mem {T : List Nd} {i : Int} (h0 : 0 ≤ i) (h : i < T.length) : ndAt T i ∈ T := by
  obtain ⟨k, rfl⟩ : ∃ k : Nat, i = k := ⟨i.toNat, by omega⟩
  rw [ndAt_nat (by omega)]
  exact List.getElem_mem _
theorem Stands.arg_lt {n : Nd} {a : Int} (h : Stands n a) (j : Nat) (hj : j < 3) (hl : (j : Int) < n.len) : 0 ≤ n.arg j ∧ n.arg j < a := (h.args j hj).1 hl
theorem Stands.len_of {n : Nd} {a lo : Int} (h : Stands n a) (hA : arityM n.op = some (lo, lo)) : n.len = lo := by
  obtain ⟨x, y, e, h1, h2⟩ := h.ar
  rw [hA] at e
  injection e with e
  injection e with e1 e2
  omega
theorem Stands.two {n : Nd} {a : Int} (h : Stands n a) (ho : n.op = 6 ∨ n.op = 12 ∨ n.op = 2 ∨ n.op = 3) : (0 ≤ n.a0 ∧ n.a0 < a) ∧ (0 ≤ n.a1 ∧ n.a1 < a) := by
  have hl : n.len = 2 := h.len_of (by rcases ho with e | e | e | e <;> rw [e] <;> decide)
  exact ⟨h.arg_lt 0 (by omega) (by rw [hl]; decide), h.arg_lt 1 (by omega) (by rw [hl]; decide)⟩
theorem Stands.one {n : Nd} {a : Int} (h : Stands n a) (ho : n.op = 1 ∨ n.op = 11) : 0 ≤ n.a0 ∧ n.a0 < a := by
  have hl : n.len = 1 := h.len_of (by rcases ho with e | e <;> rw [e] <;> decide)
  exact h.arg_lt 0 (by omega) (by rw [hl]; decide)
theorem TabOk.stands {T : List Nd} (h : TabOk T) {n : Nd} (hn : n ∈ T) : ∃ i : Nat, i < T.length ∧ T[i]? = some n ∧ Stands n i := by
  obtain ⟨i, hi, rfl⟩ := List.mem_iff_getElem.1 hn
  exact ⟨i, hi, List.getElem?_eq_getElem hi, h.st i _ (List.getElem?_eq_getElem hi)⟩
theorem baseT_append {T S : List Nd} {i : Int} (h0 : 0 ≤ i) (h : i < T.length) : baseT (T ++ S) i = baseT T i := by
  unfold baseT
  rw [ndAt_append h0 h]
def ordN (T : List Nd) (n : Nd) : Prop := n.op = 11 → n.num ≠ 0 ∧ (ndAt T n.a0).op ≠ 11 ∧ (ndAt T n.a0).op ≠ 10
theorem ordN_append {T S : List Nd} {n : Nd} {a : Int} (hs : Stands n a) (ha : a ≤ T.length) : ordN (T ++ S) n ↔ ordN T n := by
  unfold ordN
  constructor
  · intro h ho
    have h1 := hs.one (.inr ho)
    have := h ho
    rwa [ndAt_append h1.1 (by omega)] at this
  · intro h ho
    have h1 := hs.one (.inr ho)
    rw [ndAt_append h1.1 (by omega)]
    exact h ho
theorem ownB_append {T S : List Nd} {i : Int} (h0 : 0 ≤ i) (h : i < T.length) : ownB (T ++ S) i = ownB T i := by
  unfold ownB
  rw [baseT_append h0 h, ndAt_append h0 h]
theorem fitB_append {T S : List Nd} {n : Nd} {a : Int} (hs : Stands n a) (ha : a ≤ T.length) : fitB (T ++ S) n = fitB T n := by
  unfold fitB
  by_cases h1 : n.op = 1
  · have := hs.one (.inl h1)
    rw [ndAt_append this.1 (by omega)]
    simp only [h1]
    rfl
  by_cases h6 : n.op = 6
  · have := hs.two (.inl h6)
    rw [ndAt_append this.1.1 (by omega), ndAt_append this.2.1 (by omega)]
    simp only [h6]
    rfl
  by_cases h12 : n.op = 12
  · have := hs.two (.inr (.inl h12))
    rw [ownB_append this.1.1 (by omega), ownB_append this.2.1 (by omega)]
    simp only [h12]
    rfl
  · simp only [h1, h6, h12, if_false]
structure CoreT (T : List Nd) : Prop where
  ok : TabOk T
  ord : ∀ n ∈ T, ordN T n
  fit : ∀ n ∈ T, fitB T n = true
theorem coreB_iff {T : List Nd} : coreB T = true ↔ CoreT T := by
  unfold coreB
  rw [Bool.and_eq_true, Bool.and_eq_true, tabB_iff, ordB_iff, List.all_eq_true]
  exact ⟨fun ⟨⟨h1, h2⟩, h3⟩ => ⟨h1, h2, h3⟩, fun ⟨h1, h2, h3⟩ => ⟨⟨h1, h2⟩, h3⟩⟩
theorem CoreT.push {T : List Nd} (h : CoreT T) {n : Nd} (hs : Stands n T.length) (hn : n ∉ T) (ho : ordN T n) (hf : fitB T n = true) : CoreT (T ++ [n]) := by
  refine ⟨h.ok.push hs hn, fun m hm => ?_, fun m hm => ?_⟩
  · rcases List.mem_append.1 hm with hm | hm
    · obtain ⟨i, hi, _, hst⟩ := h.ok.stands hm
      exact (ordN_append hst (by omega)).2 (h.ord m hm)
    · obtain rfl := List.mem_singleton.1 hm
      exact (ordN_append hs (by omega)).2 ho
  · rcases List.mem_append.1 hm with hm | hm
    · obtain ⟨i, hi, _, hst⟩ := h.ok.stands hm
      rw [fitB_append hst (by omega)]
      exact h.fit m hm
    · obtain rfl := List.mem_singleton.1 hm
      rw [fitB_append hs (by omega)]
      exact hf
structure Grew (T T' : List Nd) : Prop where
  core : CoreT T'
  ext : ∃ S, T' = T ++ S ∧ ∀ n ∈ S, n.op ≠ 13 ∧ n.op ≠ 11 ∧ n.sort = 0
theorem Grew.refl {T : List Nd} (h : CoreT T) : Grew T T := ⟨h, [], by simp, fun n hn => by cases hn⟩
theorem Grew.trans {T T' T2 : List Nd} (h : Grew T T') (k : Grew T' T2) : Grew T T2 := by
  obtain ⟨S, rfl, h2⟩ := h.ext
  obtain ⟨S2, rfl, k2⟩ := k.ext
  exact ⟨k.core, S ++ S2, by rw [List.append_assoc], fun n hn => (List.mem_append.1 hn).elim (h2 n) (k2 n)⟩
theorem Grew.len {T T' : List Nd} (h : Grew T T') : T.length ≤ T'.length := by
  obtain ⟨S, rfl, _⟩ := h.ext
  rw [List.length_append]
  omega
theorem Grew.at_ {T T' : List Nd} (h : Grew T T') {i : Int} (h0 : 0 ≤ i) (h1 : i < T.length) : ndAt T' i = ndAt T i := by
  obtain ⟨S, rfl, _⟩ := h.ext
  exact ndAt_append h0 h1
end Go.Proofs.YtlipnnibagidiaaGreat
namespace Go.Proofs.YtlipnnibagidiaaGreat
structure Shd (T : List Nd) (x : Int) : Prop where
  lo : 0 ≤ x
  hi : x < T.length
  sort : (ndAt T x).sort = 1
def SumT (T : List Nd) : Prop := ∀ n ∈ T, n.op = 11 → (ndAt T n.a0).sort = 1
theorem Shd.mono {T T' : List Nd} (h : Grew T T') {x : Int} (hx : Shd T x) : Shd T' x := ⟨hx.lo, by have := h.len; have := hx.hi; omega, by rw [h.at_ hx.lo hx.hi]; exact hx.sort⟩
theorem base_own {T : List Nd} (hc : CoreT T) (hs : SumT T) {x : Int} (hx : Shd T x) : ownB T (baseT T x).1 = true ∧ 0 ≤ (baseT T x).1 ∧ (baseT T x).1 < T.length ∧ mayI (baseT T x).2 = true := by
  have hm := ndAt_mem hx.lo hx.hi
  obtain ⟨i, hi, _, hst⟩ := hc.ok.stands hm
  have h2 := hc.ok.len
  by_cases h11 : (ndAt T x).op = 11
  · have h1 := hst.one (.inr h11)
    have ho := hc.ord _ hm h11
    have e : baseT T x = ((ndAt T x).a0, (ndAt T x).num) := by unfold baseT; rw [if_pos h11]
    rw [e]
    refine ⟨?_, h1.1, by omega, mayI_iff.2 (hst.numb.1 (.inr (.inl h11)))⟩
    unfold ownB baseT
    rw [if_neg ho.2.1, if_neg ho.2.2]
    simp [hs _ hm h11]
  · by_cases h10 : (ndAt T x).op = 10
    · have e : baseT T x = (1, (ndAt T x).num) := by unfold baseT; rw [if_neg h11, if_pos h10]
      rw [e]
      refine ⟨?_, by show (0 : Int) ≤ 1; decide, by show (1 : Int) < _; omega, mayI_iff.2 (hst.numb.1 (.inl h10))⟩
      have h1 : ndAt T 1 = zeroNd := ndAt_some (i := 1) hc.ok.t1
      show ownB T 1 = true
      unfold ownB baseT
      rw [h1]
      decide
    · have e : baseT T x = (x, 0) := by unfold baseT; rw [if_neg h11, if_neg h10]
      rw [e]
      refine ⟨?_, hx.lo, hx.hi, by show mayI 0 = true; decide⟩
      unfold ownB
      rw [e]
      simp [hx.sort]
theorem ofT_shd {T : List Nd} (hc : TabOk T) {x : Int} (hx : Shd T x) : ofT T x = ⟨(baseT T x).1, (baseT T x).2, 0⟩ := by
  unfold ofT
  rw [if_pos (by simp [tabB_iff.2 hc, hx.lo, hx.hi]), if_pos hx.sort]
def difN (T : List Nd) (x y : Int) : Int := (baseT T y).2 - (baseT T x).2
theorem diffT_shd {T : List Nd} (hc : CoreT T) (hs : SumT T) {x y : Int} (hx : Shd T x) (hy : Shd T y) :
    diffT T x y 0 = if mayI (difN T x y) = true then ⟨(baseT T x).1, (baseT T y).1, difN T x y, 0⟩ else ⟨0, 0, 0, 10⟩ := by
  have mx := (base_own hc hs hx).2.2.2
  have my := (base_own hc hs hy).2.2.2
  have m0 : mayI 0 = true := by decide
  have m1 : mayI (0 - (baseT T x).2) = true := by
    rw [mayI_iff] at mx ⊢
    omega
  have e1 : subN 0 (baseT T x).2 = (0 - (baseT T x).2, 0) := by unfold subN; rw [if_pos (by simp [m0, mx]; simpa using m1)]
  unfold diffT
  rw [ofT_shd hc.ok hx, ofT_shd hc.ok hy]
  simp only [e1]
  have e2 : 0 - (baseT T x).2 + (baseT T y).2 = difN T x y := by unfold difN; omega
  unfold addN
  rw [e2]
  by_cases hm : mayI (difN T x y) = true
  · rw [if_pos (show (mayI (0 - (baseT T x).2) && mayI (baseT T y).2 && mayI (difN T x y)) = true by rw [m1, my, hm]; rfl), if_pos hm]
    simp
  · rw [if_neg (show ¬ (mayI (0 - (baseT T x).2) && mayI (baseT T y).2 && mayI (difN T x y)) = true by rw [m1, my]; simpa using hm), if_neg hm]
    simp
end Go.Proofs.YtlipnnibagidiaaGreat
namespace Go.Proofs.YtlipnnibagidiaaGreat
theorem Grew.mem {T T' : List Nd} (h : Grew T T') {n : Nd} (hn : n ∈ T) : n ∈ T' := by
  obtain ⟨S, rfl, _⟩ := h.ext
  exact List.mem_append.2 (.inl hn)
end Go.Proofs.YtlipnnibagidiaaGreat
namespace Go.Proofs.YtlipnnibagidiaaGreat
open Go.Lib
theorem keeps_iff (d : Array Int) (j : Nat) : keeps d j = true ↔ j = 0 ∨ d[j]! ≠ d[j - 1]! := by
  unfold keeps
  simp
theorem get_le {zs : List Int} (h : zs.Pairwise (· ≤ ·)) {i j : Nat} (hij : i ≤ j) (hj : j < zs.length) : zs[i]'(by omega) ≤ zs[j] := by
  rcases Nat.lt_or_ge i j with h1 | h1
  · exact List.pairwise_iff_getElem.1 h i j (by omega) hj h1
  · obtain rfl : i = j := by omega
    exact Int.le_refl _
theorem compact_lt {zs : List Int} (h : zs.Pairwise (· ≤ ·)) : (compact zs).Pairwise (· < ·) := by
  unfold compact compactUpTo
  rw [List.pairwise_map, List.pairwise_filter]
  refine List.Pairwise.imp_of_mem ?_ (List.pairwise_lt_range (n := zs.length))
  intro i j hi hj hij _ hk
  have hj' := List.mem_range.1 hj
  have hi' := List.mem_range.1 hi
  rcases (keeps_iff _ _).1 hk with h0 | h0
  · omega
  · have a1 := get_le h (show i ≤ j - 1 by omega) (show j - 1 < zs.length by omega)
    have a2 := get_le h (show j - 1 ≤ j by omega) hj'
    have e1 : zs.toArray[j]! = zs[j] := by simp [getElem!_pos, hj']
    have e2 : zs.toArray[j - 1]! = zs[j - 1] := by simp [getElem!_pos, show j - 1 < zs.length by omega]
    have e3 : zs.toArray[i]! = zs[i] := by simp [getElem!_pos, hi']
    rw [e1, e2] at h0
    show zs.toArray[i]! < zs.toArray[j]!
    rw [e1, e3]
    omega
theorem mem_compact {zs : List Int} (x : Int) : x ∈ compact zs ↔ x ∈ zs := by
  unfold compact compactUpTo
  rw [List.mem_map]
  constructor
  · rintro ⟨j, hj, rfl⟩
    have hj' := List.mem_range.1 (List.mem_filter.1 hj).1
    have e1 : zs.toArray[j]! = zs[j] := by simp [getElem!_pos, hj']
    rw [e1]
    exact List.getElem_mem hj'
  · intro hx
    have key : ∀ i : Nat, ∀ h : i < zs.length, zs[i] = x → ∃ j, j ∈ (List.range zs.length).filter (keeps zs.toArray) ∧ zs.toArray[j]! = x := by
      intro i
      induction i with
      | zero =>
        intro h hx
        refine ⟨0, List.mem_filter.2 ⟨List.mem_range.2 h, (keeps_iff _ _).2 (.inl rfl)⟩, ?_⟩
        rw [show zs.toArray[0]! = zs[0] by simp [getElem!_pos, h], hx]
      | succ i ih =>
        intro h hx
        by_cases he : zs[i] = x
        · exact ih (by omega) he
        · have e1 : zs.toArray[i + 1]! = zs[i + 1] := by simp [getElem!_pos, h]
          have e2 : zs.toArray[i + 1 - 1]! = zs[i] := by simp [getElem!_pos, show i < zs.length by omega]
          refine ⟨i + 1, List.mem_filter.2 ⟨List.mem_range.2 h, (keeps_iff _ _).2 (.inr ?_)⟩, ?_⟩
          · rw [e1, e2, hx]
            exact fun e => he e.symm
          · rw [e1, hx]
    obtain ⟨i, hi, e⟩ := List.mem_iff_getElem.1 hx
    exact key i hi e
def Ord (l : List Int) : Prop := l.Pairwise (· < ·)
theorem ord_ext : ∀ {l m : List Int}, Ord l → Ord m → (∀ x, x ∈ l ↔ x ∈ m) → l = m
  | [], [], _, _, _ => rfl
  | [], y :: m, _, _, h => absurd ((h y).2 List.mem_cons_self) (by simp)
  | x :: l, [], _, _, h => absurd ((h x).1 List.mem_cons_self) (by simp)
  | x :: l, y :: m, hl, hm, h => by
    obtain ⟨a1, a2⟩ := List.pairwise_cons.1 hl
    obtain ⟨b1, b2⟩ := List.pairwise_cons.1 hm
    have e : x = y := by
      rcases List.mem_cons.1 ((h x).1 List.mem_cons_self) with e | e
      · exact e
      · rcases List.mem_cons.1 ((h y).2 List.mem_cons_self) with e' | e'
        · exact e'.symm
        · have := a1 y e'; have := b1 x e; omega
    subst e
    refine congrArg (x :: ·) (ord_ext a2 b2 fun z => ?_)
    constructor
    · intro hz
      rcases List.mem_cons.1 ((h z).1 (List.mem_cons_of_mem _ hz)) with e | e
      · have := a1 z hz; omega
      · exact e
    · intro hz
      rcases List.mem_cons.1 ((h z).2 (List.mem_cons_of_mem _ hz)) with e | e
      · have := b1 z hz; omega
      · exact e
theorem made_ord (l : List Int) : Ord (compact (l.mergeSort fun x y => decide (x ≤ y))) := by
  refine compact_lt ?_
  have h := List.pairwise_mergeSort (le := fun x y : Int => decide (x ≤ y)) (fun a b c h1 h2 => by simp at *; omega) (fun a b => by simp; omega) l
  exact h.imp fun h => by simpa using h
theorem made_mem (l : List Int) (x : Int) : x ∈ compact (l.mergeSort fun x y => decide (x ≤ y)) ↔ x ∈ l := by
  rw [mem_compact, List.mem_mergeSort]
end Go.Proofs.YtlipnnibagidiaaGreat
namespace Go.Proofs.YtlipnnibagidiaaGreat
def makeM (l : List Int) : List Int := Lib.compact ((l.filter fun x => !decide (x < 0)).mergeSort fun x y => decide (x ≤ y))
theorem mem_make (l : List Int) (x : Int) : x ∈ makeM l ↔ x ∈ l ∧ 0 ≤ x := by
  unfold makeM
  rw [made_mem, List.mem_filter]
  simp
theorem make_ord (l : List Int) : Ord (makeM l) := made_ord _
end Go.Proofs.YtlipnnibagidiaaGreat
