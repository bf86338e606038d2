/- Whether a node may stand at a place: the number of its arguments. -/
import Derived.Test.YtlipnnibagidiaaBase
import Derived.Test.YtlipnnibagidiaaEuP
import Derived.Test.YtlipnnibagidiaaProg
import Derived.Deep.LoopGhost
import Derived.OwnWalk
namespace Go.Proofs.Ytlipnnibagidiaa
open Go.RowKit

def ArIs (op : Int) (w : World) (e : Ending) (w' : World) : Prop := Below w.heap.size w w' ∧ match arityM op with
  | some (lo, hi) => e = .returned (.tuple #[.int .i8 lo, .int .i8 hi, .bool true])
  | none => e = .returned (.tuple #[.int .i8 0, .int .i8 0, .bool false])
theorem arity_far {op : Int} (h : op < 0 ∨ 13 < op) : arityM op = none := by
  unfold arityM
  repeat' split
  all_goals first | rfl | (exfalso; omega)
set_option maxHeartbeats 2000000 in
theorem arity_ok (op : Int) (hr : -128 ≤ op ∧ op ≤ 127) (w : World) : Calls Try.prog 52 #[.int .i8 op] w (ArIs op w) := by
  have hb : ∀ c t, Below w.heap.size w (w.alloc (.cells c t)) := fun c t => (Below.refl _ w).alloc (Nat.le_refl _) _
  have HB := Lib.hid hb
  clear hb
  by_cases h0 : op < 0
  · have d0 : decide (op < 0) = true := decide_eq_true h0
    have d1 : (op == 13) = false := beq_eq_false_iff_ne.2 (by omega)
    have HA := Lib.hid (arity_far (.inl h0))
    clear h0 hr
    go_enter Try.func52, Try.ntmps52
    go_wp2
    go_ret3
    unfold ArIs
    rw [HA.out]
    exact ⟨HB.out _ _, rfl⟩
  by_cases h1 : 13 < op
  · have d0 : decide (op < 0) = false := decide_eq_false h0
    have d1 : (op == 13) = false := beq_eq_false_iff_ne.2 (by omega)
    have d2 : decide (13 ≤ op) = true := decide_eq_true (by omega)
    have HA := Lib.hid (arity_far (.inr h1))
    have h2 := hr.2
    clear h0 hr
    go_enter Try.func52, Try.ntmps52
    go_wp2
    go_ret3
    unfold ArIs
    rw [HA.out]
    exact ⟨HB.out _ _, rfl⟩
  have hc : op = 13 ∨ op = 0 ∨ op = 1 ∨ op = 2 ∨ op = 3 ∨ op = 4 ∨ op = 5 ∨ op = 6 ∨ op = 7 ∨ op = 8 ∨ op = 9 ∨ op = 10 ∨ op = 11 ∨ op = 12 := by omega
  clear h0 h1 hr
  rcases hc with rfl | hc
  · go_enter Try.func52, Try.ntmps52
    go_wp2
    go_ret3
    exact ⟨Below.refl _ _, rfl⟩
  rcases hc with rfl | rfl | rfl | rfl | rfl | rfl | rfl | rfl | rfl | rfl | rfl | rfl | rfl
  all_goals
    go_enter Try.func52, Try.ntmps52
    go_wp2
    go_quiet (fail)
    go_wp2
    go_ret3
    exact ⟨below_drewN (HB.out _ _) _, rfl⟩
/-- The reference's number of arguments. -/
def arity05 (op : Int) : Int := if op = 0 ∨ op = 10 then 0 else if op = 1 ∨ op = 11 then 1 else if op = 7 then 3 else if op = 13 then -1 else if 2 ≤ op ∧ op ≤ 12 then 2 else -2
theorem arity5_far {op : Int} (h : op < 0 ∨ 13 < op) : arity05 op = -2 := by
  unfold arity05
  repeat' split
  all_goals first | rfl | (exfalso; omega)
set_option maxHeartbeats 2000000 in
theorem arity5_ok (op : Int) (w : World) : Calls Try.prog 66 #[.int .i8 op] w fun e w' => e = .returned (.int .i64 (arity05 op)) ∧ w = w' := by
  by_cases h0 : op < 0 ∨ 13 < op
  · have b : ∀ k : Int, 0 ≤ k → k ≤ 13 → (op == k) = false := fun k h1 h2 => beq_eq_false_iff_ne.2 (by omega)
    have b0 := b 0 (by omega) (by omega)
    have b1 := b 1 (by omega) (by omega)
    have b2 := b 2 (by omega) (by omega)
    have b3 := b 3 (by omega) (by omega)
    have b4 := b 4 (by omega) (by omega)
    have b5 := b 5 (by omega) (by omega)
    have b6 := b 6 (by omega) (by omega)
    have b7 := b 7 (by omega) (by omega)
    have b8 := b 8 (by omega) (by omega)
    have b9 := b 9 (by omega) (by omega)
    have b10 := b 10 (by omega) (by omega)
    have b11 := b 11 (by omega) (by omega)
    have b12 := b 12 (by omega) (by omega)
    have b13 := b 13 (by omega) (by omega)
    rw [arity5_far h0]
    clear b h0
    go_enter Try.func66, Try.ntmps66
    go_wp2
    go_ret
    exact ⟨rfl, rfl⟩
  have hc : op = 0 ∨ op = 1 ∨ op = 2 ∨ op = 3 ∨ op = 4 ∨ op = 5 ∨ op = 6 ∨ op = 7 ∨ op = 8 ∨ op = 9 ∨ op = 10 ∨ op = 11 ∨ op = 12 ∨ op = 13 := by omega
  clear h0
  rcases hc with rfl | rfl | rfl | rfl | rfl | rfl | rfl | rfl | rfl | rfl | rfl | rfl | rfl | rfl
  all_goals
    go_enter Try.func66, Try.ntmps66
    go_wp2
    go_ret
    exact ⟨rfl, rfl⟩
/-- A number that may be. -/
def numB (n : Int) : Bool := decide (-4611686018427387904 ≤ n) && decide (n ≤ 4611686018427387904)
theorem num5_ok (n : Int) (w : World) : Calls Try.prog 67 #[.int .i64 n] w fun e w' => e = .returned (.bool (numB n)) ∧ w = w' := by
  by_cases h0 : -4611686018427387904 ≤ n
  · have d0 : decide (-4611686018427387904 ≤ n) = true := decide_eq_true h0
    unfold numB
    rw [d0, Bool.true_and]
    clear h0
    generalize hq : decide (n ≤ 4611686018427387904) = q
    go_enter Try.func67, Try.ntmps67
    go_wp2
    go_ret
    exact ⟨rfl, rfl⟩
  · have d0 : decide (-4611686018427387904 ≤ n) = false := decide_eq_false h0
    unfold numB
    rw [d0, Bool.false_and]
    clear h0
    go_enter Try.func67, Try.ntmps67
    go_wp2
    go_ret
    exact ⟨rfl, rfl⟩
theorem numB_a {n : Int} (h : n / 4611686018427387904 = 0 ∨ n / 4611686018427387904 = -1) : numB n = true := by
  unfold numB
  rw [decide_eq_true (by omega : -4611686018427387904 ≤ n), decide_eq_true (by omega : n ≤ 4611686018427387904)]
  rfl
theorem numB_b {n : Int} : (n / 4611686018427387904 == 0 || n / 4611686018427387904 == -1 || n == 4611686018427387904) = numB n := by
  unfold numB
  by_cases h0 : n / 4611686018427387904 = 0
  · exact (by rw [h0]; rfl : _ = true).trans (numB_a (.inl h0)).symm
  by_cases h1 : n / 4611686018427387904 = -1
  · exact (by rw [h1]; rfl : _ = true).trans (numB_a (.inr h1)).symm
  rw [beq_eq_false_iff_ne.2 h0, beq_eq_false_iff_ne.2 h1]
  by_cases h2 : n = 4611686018427387904
  · subst h2
    rfl
  · rw [beq_eq_false_iff_ne.2 h2]
    by_cases h3 : -4611686018427387904 ≤ n
    · rw [decide_eq_true h3, decide_eq_false (by omega)]
      rfl
    · rw [decide_eq_false h3]
      rfl
theorem num_ok (n : Int) (w : World) : Calls Try.prog 53 #[.int .i64 n] w fun e w' => e = .returned (.bool (numB n)) ∧ w = w' := by
  go_enter Try.func53, Try.ntmps53
  go_wp2
  · rename_i h
    go_ret
    exact ⟨by rw [numB_a (.inl h)]; rfl, rfl⟩
  · rename_i h
    go_ret
    exact ⟨by rw [numB_a (.inr h)]; rfl, rfl⟩
  · go_ret
    exact ⟨by rw [numB_b]; rfl, rfl⟩
end Go.Proofs.Ytlipnnibagidiaa

/- The plain side of layer 26: tables that grow, offsets, shared nodes. -/
namespace Go.Proofs.Ytlipnnibagidiaa

instance : DecidableEq Nd := fun a b =>
  if h : a.op = b.op ∧ a.len = b.len ∧ a.a0 = b.a0 ∧ a.a1 = b.a1 ∧ a.a2 = b.a2 ∧ a.sort = b.sort ∧ a.fn = b.fn ∧ a.num = b.num then
    .isTrue (by
      obtain ⟨o, l, x, y, z, s, f, n⟩ := a
      obtain ⟨o', l', x', y', z', s', f', n'⟩ := b
      simp only at h
      obtain ⟨rfl, rfl, rfl, rfl, rfl, rfl, rfl, rfl⟩ := h
      rfl)
  else .isFalse (fun e => h (by subst e; exact ⟨rfl, rfl, rfl, rfl, rfl, rfl, rfl, rfl⟩))

def mayI (x : Int) : Bool := decide (-4611686018427387904 ≤ x) && decide (x ≤ 4611686018427387904)
theorem mayI_iff {x : Int} : mayI x = true ↔ -4611686018427387904 ≤ x ∧ x ≤ 4611686018427387904 := by unfold mayI; simp
def argB (n : Nd) (a : Int) (j : Nat) : Bool := (decide ((j : Int) < n.len) && decide (0 ≤ n.arg j) && decide (n.arg j < a)) || (decide (n.len ≤ j) && decide (n.arg j = 0))
def standsB (n : Nd) (a : Int) : Bool :=
  (match arityM n.op with | some (lo, hi) => decide (lo ≤ n.len) && decide (n.len ≤ hi) | none => false)
  && decide (0 ≤ n.sort) && decide (n.sort < 6) && (argB n a 0 && argB n a 1 && argB n a 2) && (decide (0 ≤ n.fn) && decide (n.fn < 12) && (decide (n.fn ≤ 0) || decide (n.op = 13)))
  && (if n.op = 10 ∨ n.op = 11 ∨ n.op = 12 then mayI n.num else decide (n.num = 0))
theorem argB_iff {n : Nd} {a : Int} {j : Nat} : argB n a j = true ↔ ((j : Int) < n.len → 0 ≤ n.arg j ∧ n.arg j < a) ∧ (n.len ≤ j → n.arg j = 0) := by
  unfold argB
  simp only [Bool.or_eq_true, Bool.and_eq_true, decide_eq_true_eq]
  constructor
  · rintro (⟨⟨h1, h2⟩, h3⟩ | ⟨h1, h2⟩)
    · exact ⟨fun _ => ⟨h2, h3⟩, fun h => by omega⟩
    · exact ⟨fun h => by omega, fun _ => h2⟩
  · rintro ⟨h1, h2⟩
    by_cases h : (j : Int) < n.len
    · exact .inl ⟨⟨h, (h1 h).1⟩, (h1 h).2⟩
    · exact .inr ⟨by omega, h2 (by omega)⟩
theorem standsB_iff {n : Nd} {a : Int} : standsB n a = true ↔ Stands n a := by
  unfold standsB
  simp only [Bool.and_eq_true, Bool.or_eq_true, decide_eq_true_eq, argB_iff]
  constructor
  · rintro ⟨⟨⟨⟨⟨h1, h2⟩, h3⟩, ⟨h4, h5⟩, h6⟩, ⟨h7, h8⟩, h9⟩, h10⟩
    refine ⟨?_, ⟨h2, h3⟩, fun j hj => ?_, ⟨h7, h8, fun h => ?_⟩, fun hc => ?_, fun hc => ?_⟩
    · cases hA : arityM n.op with
      | none => rw [hA] at h1; cases h1
      | some p =>
        obtain ⟨lo, hi⟩ := p
        rw [hA] at h1
        simp at h1
        exact ⟨lo, hi, rfl, h1.1, h1.2⟩
    · rcases (by omega : j = 0 ∨ j = 1 ∨ j = 2) with rfl | rfl | rfl
      · exact h4
      · exact h5
      · exact h6
    · rcases h9 with h9 | h9
      · omega
      · exact h9
    · rw [if_pos hc] at h10
      exact mayI_iff.1 h10
    · rw [if_neg hc] at h10
      simpa using h10
  · rintro ⟨⟨lo, hi, h1, h2, h3⟩, ⟨h4, h5⟩, h6, ⟨h7, h8, h9⟩, h10, h11⟩
    refine ⟨⟨⟨⟨⟨?_, h4⟩, h5⟩, ⟨h6 0 (by omega), h6 1 (by omega)⟩, h6 2 (by omega)⟩, ⟨h7, h8⟩, ?_⟩, ?_⟩
    · rw [h1]
      simp [h2, h3]
    · by_cases h : 0 < n.fn
      · exact .inr (h9 h)
      · exact .inl (by omega)
    · split
      · rename_i hc
        exact mayI_iff.2 (h10 hc)
      · rename_i hc
        simpa using h11 hc
def tabB (T : List Nd) : Bool := decide (T[0]? = some trueNd) && decide (T[1]? = some zeroNd) && (List.range T.length).all (fun i => standsB (T.getD i trueNd) i) && decide T.Nodup
theorem tabB_iff {T : List Nd} : tabB T = true ↔ TabOk T := by
  unfold tabB
  simp only [Bool.and_eq_true, decide_eq_true_eq, List.all_eq_true, List.mem_range, standsB_iff]
  constructor
  · rintro ⟨⟨⟨h0, h1⟩, h2⟩, h3⟩
    refine ⟨h0, h1, fun i n hn => ?_, h3⟩
    obtain ⟨hi, hn⟩ := List.getElem?_eq_some_iff.1 hn
    have := h2 i hi
    rw [List.getD_eq_getElem?_getD, List.getElem?_eq_getElem hi, hn] at this
    exact this
  · rintro ⟨h0, h1, h2, h3⟩
    refine ⟨⟨⟨h0, h1⟩, fun i hi => ?_⟩, h3⟩
    rw [List.getD_eq_getElem?_getD, List.getElem?_eq_getElem hi]
    exact h2 i _ (List.getElem?_eq_getElem hi)

/-- A table, a number, an error. -/
structure PutR where
  T : List Nd
  id : Int
  e : Int
def putT (T : List Nd) (n : Nd) (most : Int) : PutR :=
  if tabB T && standsB n T.length then
    if n ∈ T then ⟨T, (T.idxOf n : Nat), 0⟩ else if most ≤ T.length then ⟨[], 0, 40⟩ else ⟨T ++ [n], T.length, 0⟩
  else ⟨[], 0, 2⟩
theorem TabOk.push {T : List Nd} (h : TabOk T) {n : Nd} (hs : Stands n T.length) (hn : n ∉ T) : TabOk (T ++ [n]) := by
  have hl := h.len
  refine ⟨?_, ?_, fun i m hm => ?_, ?_⟩
  · rw [List.getElem?_append_left (by omega)]
    exact h.t0
  · rw [List.getElem?_append_left (by omega)]
    exact h.t1
  · by_cases hi : i < T.length
    · rw [List.getElem?_append_left hi] at hm
      exact h.st i m hm
    · have hlt := (List.getElem?_eq_some_iff.1 hm).1
      simp at hlt
      obtain rfl : i = T.length := by omega
      rw [List.getElem?_append_right (Nat.le_refl _), Nat.sub_self] at hm
      simp at hm
      rw [← hm]
      exact hs
  · rw [List.nodup_append]
    exact ⟨h.once, by simp, fun a ha b hb e => hn (by rw [List.mem_singleton] at hb; rw [← hb, ← e]; exact ha)⟩
theorem putT_ok {T : List Nd} {n : Nd} {most : Int} (h : (putT T n most).e = 0) : TabOk T ∧ Stands n T.length ∧ TabOk (putT T n most).T ∧ (∃ k : Nat, (putT T n most).id = k ∧ (putT T n most).T[k]? = some n) ∧ ∃ S, (putT T n most).T = T ++ S ∧ S.length ≤ 1 := by
  unfold putT at h ⊢
  by_cases h1 : (tabB T && standsB n T.length) = true
  · rw [if_pos h1] at h ⊢
    rw [Bool.and_eq_true] at h1
    have ht := tabB_iff.1 h1.1
    have hs := standsB_iff.1 h1.2
    by_cases h2 : n ∈ T
    · rw [if_pos h2] at h ⊢
      refine ⟨ht, hs, ht, ⟨_, rfl, ?_⟩, [], by simp, by simp⟩
      rw [List.getElem?_eq_getElem (List.idxOf_lt_length_iff.2 h2)]
      simp
    · rw [if_neg h2] at h ⊢
      by_cases h3 : most ≤ (T.length : Int)
      · rw [if_pos h3] at h
        cases h
      · rw [if_neg h3] at h ⊢
        exact ⟨ht, hs, ht.push hs h2, ⟨T.length, rfl, by simp⟩, [n], rfl, by simp⟩
  · rw [if_neg h1] at h
    cases h
end Go.Proofs.Ytlipnnibagidiaa

/- The plain side of layer 26: offsets, what a core table is so far, shared nodes, laying. -/
namespace Go.Proofs.Ytlipnnibagidiaa

/-- A node at a place; outside, one that is none. -/
def ndAt (T : List Nd) (i : Int) : Nd := if i < 0 then ⟨-1, 0, 0, 0, 0, -1, 0, 0⟩ else T.getD i.toNat ⟨-1, 0, 0, 0, 0, -1, 0, 0⟩
theorem ndAt_nat {T : List Nd} {i : Nat} (h : i < T.length) : ndAt T i = T[i] := by
  unfold ndAt
  rw [if_neg (by omega), Int.toNat_natCast, List.getD_eq_getElem?_getD, List.getElem?_eq_getElem h]
  rfl
theorem ndAt_some {T : List Nd} {i : Nat} {n : Nd} (h : T[i]? = some n) : ndAt T i = n := by
  obtain ⟨h1, h2⟩ := List.getElem?_eq_some_iff.1 h
  rw [ndAt_nat h1, h2]
/-- In order: what a sum adds to is neither a sum nor a number, and no sum adds nought. -/
def ordB (T : List Nd) : Bool := T.all fun n => decide (n.op = 11 → n.num ≠ 0 ∧ (ndAt T n.a0).op ≠ 11 ∧ (ndAt T n.a0).op ≠ 10)
theorem ordB_iff {T : List Nd} : ordB T = true ↔ ∀ n ∈ T, n.op = 11 → n.num ≠ 0 ∧ (ndAt T n.a0).op ≠ 11 ∧ (ndAt T n.a0).op ≠ 10 := by
  unfold ordB
  simp only [List.all_eq_true, decide_eq_true_eq]
/-- A node's base, and its offset, in a table that is in order. -/
def baseT (T : List Nd) (id : Int) : Int × Int := if (ndAt T id).op = 11 then ((ndAt T id).a0, (ndAt T id).num) else if (ndAt T id).op = 10 then (1, (ndAt T id).num) else (id, 0)
structure OfR where
  b : Int
  n : Int
  e : Int
/-- Of, in a table that is in order. -/
def ofT (T : List Nd) (id : Int) : OfR := if tabB T && decide (0 ≤ id) && decide (id < T.length) then (if (ndAt T id).sort = 1 then ⟨(baseT T id).1, (baseT T id).2, 0⟩ else ⟨0, 0, 33⟩) else ⟨0, 0, 2⟩
def subN (a b : Int) : Int × Int := if mayI a && mayI b && mayI (a - b) then (a - b, 0) else (0, 10)
def addN (a b : Int) : Int × Int := if mayI a && mayI b && mayI (a + b) then (a + b, 0) else (0, 10)
structure DiffR where
  x : Int
  y : Int
  d : Int
  e : Int
def diffT (T : List Nd) (a b c : Int) : DiffR :=
  if (ofT T a).e ≠ 0 then ⟨0, 0, 0, (ofT T a).e⟩ else
  if (ofT T b).e ≠ 0 then ⟨0, 0, 0, (ofT T b).e⟩ else
  if (subN c (ofT T a).n).2 ≠ 0 then ⟨0, 0, 0, (subN c (ofT T a).n).2⟩ else
  if (addN (subN c (ofT T a).n).1 (ofT T b).n).2 ≠ 0 then ⟨0, 0, 0, (addN (subN c (ofT T a).n).1 (ofT T b).n).2⟩ else
  ⟨(ofT T a).b, (ofT T b).b, (addN (subN c (ofT T a).n).1 (ofT T b).n).1, 0⟩
def diffNd (x y d : Int) : Nd := ⟨12, 2, x, y, 0, 0, 0, d⟩
def notNd (a : Int) : Nd := ⟨1, 1, a, 0, 0, 0, 0, 0⟩
def eqNd (x y : Int) : Nd := ⟨6, 2, x, y, 0, 0, 0, 0⟩
structure LeR where
  T : List Nd
  id : Int
  is : Bool
  e : Int
def leT (T : List Nd) (a b c most : Int) : LeR :=
  if (diffT T a b c).e ≠ 0 then ⟨[], 0, false, (diffT T a b c).e⟩ else
  if (diffT T a b c).x ≠ (diffT T a b c).y then
    ⟨(putT T (diffNd (diffT T a b c).x (diffT T a b c).y (diffT T a b c).d) most).T, (putT T (diffNd (diffT T a b c).x (diffT T a b c).y (diffT T a b c).d) most).id, decide ((putT T (diffNd (diffT T a b c).x (diffT T a b c).y (diffT T a b c).d) most).e = 0), (putT T (diffNd (diffT T a b c).x (diffT T a b c).y (diffT T a b c).d) most).e⟩
  else if 0 ≤ (diffT T a b c).d then ⟨T, 0, false, 0⟩
  else ⟨(putT T (notNd 0) most).T, (putT T (notNd 0) most).id, false, (putT T (notNd 0) most).e⟩

/-! ### core so far, shared nodes -/
def ownB (T : List Nd) (id : Int) : Bool := decide ((baseT T id).1 = id) && decide ((ndAt T id).sort = 1)
def fitB (T : List Nd) (n : Nd) : Bool :=
  if n.op = 4 ∨ n.op = 5 ∨ n.op = 8 ∨ n.op = 9 then false
  else if n.op = 1 then decide ((ndAt T n.a0).op ≠ 1)
  else if n.op = 6 then (if (ndAt T n.a0).sort = 1 then decide (n.a0 < n.a1) && decide ((ndAt T n.a1).sort = 1) else decide ((ndAt T n.a0).sort = 0) || decide (n.a0 ≠ n.a1))
  else if n.op = 12 then decide (n.a0 ≠ n.a1) && ownB T n.a0 && ownB T n.a1
  else true
def coreB (T : List Nd) : Bool := tabB T && ordB T && T.all (fitB T)
def sharedB (T : List Nd) (i : Nat) : Bool :=
  (decide ((ndAt T i).op = 13) && decide (0 < (ndAt T i).len) && decide ((ndAt T i).sort = 1)) ||
  (decide ((ndAt T i).sort = 1) && T.any fun n => decide (n.op = 13) && ((decide (0 < n.len) && decide (n.a0 = i)) || (decide (1 < n.len) && decide (n.a1 = i)) || (decide (2 < n.len) && decide (n.a2 = i))))
def nodesT (T : List Nd) : List Int := ((List.range T.length).filter (sharedB T)).map fun (i : Nat) => (i : Int)
structure LayR where
  T : List Nd
  e : Int
/-- What two shared nodes need, laid. -/
def layT (T : List Nd) (x y most : Int) : LayR :=
  if (putT T (eqNd x y) most).e ≠ 0 then ⟨[], (putT T (eqNd x y) most).e⟩ else
  if (diffT (putT T (eqNd x y) most).T x y 0).e ≠ 0 then ⟨[], (diffT (putT T (eqNd x y) most).T x y 0).e⟩ else
  if (diffT (putT T (eqNd x y) most).T x y 0).x = (diffT (putT T (eqNd x y) most).T x y 0).y then ⟨(putT T (eqNd x y) most).T, 0⟩ else
  if (leT (putT T (eqNd x y) most).T x y 0 most).e ≠ 0 then ⟨[], (leT (putT T (eqNd x y) most).T x y 0 most).e⟩ else
  ⟨(leT (leT (putT T (eqNd x y) most).T x y 0 most).T y x 0 most).T, (leT (leT (putT T (eqNd x y) most).T x y 0 most).T y x 0 most).e⟩
def pairsL : List Int → List (Int × Int)
  | [] => []
  | x :: r => r.map (fun y => (x, y)) ++ pairsL r
def laysT : List (Int × Int) → List Nd → Int → LayR
  | [], T, _ => ⟨T, 0⟩
  | p :: r, T, most => if (layT T p.1 p.2 most).e ≠ 0 then ⟨[], (layT T p.1 p.2 most).e⟩ else laysT r (layT T p.1 p.2 most).T most
def putS (T : List Nd) (most : Int) : LayR := if coreB T then (if 12 < (nodesT T).length then ⟨[], 40⟩ else laysT (pairsL (nodesT T)) T most) else ⟨[], 2⟩

/-! ### the table of wakes -/
def shW : List Nd := [trueNd, zeroNd, ⟨13, 0, 0, 0, 0, 1, 0, 0⟩, ⟨11, 1, 2, 0, 0, 1, 0, 1⟩, ⟨13, 1, 2, 0, 0, 0, 1, 0⟩, ⟨13, 1, 3, 0, 0, 0, 1, 0⟩]
theorem shW_core : coreB shW = true := by decide +kernel
theorem shW_nodes : nodesT shW = [2, 3] := by decide +kernel
theorem shW_put : (putS shW 20).e = 0 ∧ (putS shW 20).T = shW ++ [eqNd 2 3] := by decide +kernel
end Go.Proofs.Ytlipnnibagidiaa
