/- The plain side of layer 26: tables that grow, offsets, shared nodes. -/
namespace Go.Proofs.YtlipnnibagidiaaGreat
structure Nd where
  op : Int
  len : Int
  a0 : Int
  a1 : Int
  a2 : Int
  sort : Int
  fn : Int
  num : Int
instance : Inhabited Nd := ⟨⟨0, 0, 0, 0, 0, 0, 0, 0⟩⟩
def Nd.arg (n : Nd) (j : Nat) : Int := if j = 0 then n.a0 else if j = 1 then n.a1 else n.a2
def arityM (op : Int) : Option (Int × Int) :=
  if op = 0 ∨ op = 10 then some (0, 0) else if op = 1 ∨ op = 11 then some (1, 1) else if op = 7 then some (3, 3) else if op = 13 then some (0, 3) else if 2 ≤ op ∧ op ≤ 12 then some (2, 2) else none
structure Stands (n : Nd) (at_ : Int) : Prop where
  ar : ∃ lo hi, arityM n.op = some (lo, hi) ∧ lo ≤ n.len ∧ n.len ≤ hi
  srt : 0 ≤ n.sort ∧ n.sort < 6
  args : ∀ j : Nat, j < 3 → ((j : Int) < n.len → 0 ≤ n.arg j ∧ n.arg j < at_) ∧ (n.len ≤ j → n.arg j = 0)
  fun_ : 0 ≤ n.fn ∧ n.fn < 12 ∧ (0 < n.fn → n.op = 13)
  numb : (n.op = 10 ∨ n.op = 11 ∨ n.op = 12 → -4611686018427387904 ≤ n.num ∧ n.num ≤ 4611686018427387904) ∧ (¬ (n.op = 10 ∨ n.op = 11 ∨ n.op = 12) → n.num = 0)
def trueNd : Nd := ⟨0, 0, 0, 0, 0, 0, 0, 0⟩
def zeroNd : Nd := ⟨10, 0, 0, 0, 0, 1, 0, 0⟩
structure TabOk (T : List Nd) : Prop where
  t0 : T[0]? = some trueNd
  t1 : T[1]? = some zeroNd
  st : ∀ (i : Nat) (n : Nd), T[i]? = some n → Stands n i
  once : T.Nodup
theorem TabOk.len {T : List Nd} (h : TabOk T) : 2 ≤ T.length := (List.getElem?_eq_some_iff.1 h.t1).1
theorem Stands.len {n : Nd} {a : Int} (h : Stands n a) : 0 ≤ n.len ∧ n.len ≤ 3 := by
  obtain ⟨lo, hi, e, h1, h2⟩ := h.ar
  unfold arityM at e
  repeat' split at e
  all_goals first
    | (injection e with e; injection e with e1 e2; subst e1 e2; omega)
    | cases e
end Go.Proofs.YtlipnnibagidiaaGreat
namespace Go.Proofs.YtlipnnibagidiaaGreat
instance : DecidableEq Nd := fun a b =>
  if h : a.op = b.op ∧ a.len = b.len ∧ a.a0 = b.a0 ∧ a.a1 = b.a1 ∧ a.a2 = b.a2 ∧ a.sort = b.sort ∧ a.fn = b.fn ∧ a.num = b.num then
    .isTrue (by
      obtain ⟨o, l, x, y, z, s, f, n⟩ := a
      obtain ⟨o', l', x', y', z', s', f', n'⟩ := b
      simp only at h
      obtain ⟨rfl, rfl, rfl, rfl, rfl, rfl, rfl, rfl⟩ := h
      rfl)
  else .isFalse (fun e => h (by subst e; exact ⟨rfl, rfl, rfl, rfl, rfl, rfl, rfl, rfl⟩))
def mayI (x : Int) : Bool := decide (-4611686018427387904 ≤ x) && decide (x ≤ 4611686018427387904)
theorem mayI_iff {x : Int} : mayI x = true ↔ -4611686018427387904 ≤ x ∧ x ≤ 4611686018427387904 := by unfold mayI; simp
def argB (n : Nd) (a : Int) (j : Nat) : Bool := (decide ((j : Int) < n.len) && decide (0 ≤ n.arg j) && decide (n.arg j < a)) || (decide (n.len ≤ j) && decide (n.arg j = 0))
def standsB (n : Nd) (a : Int) : Bool :=
  (match arityM n.op with | some (lo, hi) => decide (lo ≤ n.len) && decide (n.len ≤ hi) | none => false)
  && decide (0 ≤ n.sort) && decide (n.sort < 6) && (argB n a 0 && argB n a 1 && argB n a 2) && (decide (0 ≤ n.fn) && decide (n.fn < 12) && (decide (n.fn ≤ 0) || decide (n.op = 13)))
  && (if n.op = 10 ∨ n.op = 11 ∨ n.op = 12 then mayI n.num else decide (n.num = 0))
theorem argB_iff {n : Nd} {a : Int} {j : Nat} : argB n a j = true ↔ ((j : Int) < n.len → 0 ≤ n.arg j ∧ n.arg j < a) ∧ (n.len ≤ j → n.arg j = 0) := by
  unfold argB
  simp only [Bool.or_eq_true, Bool.and_eq_true, decide_eq_true_eq]
  constructor
  · rintro (⟨⟨h1, h2⟩, h3⟩ | ⟨h1, h2⟩)
    · exact ⟨fun _ => ⟨h2, h3⟩, fun h => by omega⟩
    · exact ⟨fun h => by omega, fun _ => h2⟩
  · rintro ⟨h1, h2⟩
    by_cases h : (j : Int) < n.len
    · exact .inl ⟨⟨h, (h1 h).1⟩, (h1 h).2⟩
    · exact .inr ⟨by omega, h2 (by omega)⟩
theorem standsB_iff {n : Nd} {a : Int} : standsB n a = true ↔ Stands n a := by
  unfold standsB
  simp only [Bool.and_eq_true, Bool.or_eq_true, decide_eq_true_eq, argB_iff]
  constructor
  · rintro ⟨⟨⟨⟨⟨h1, h2⟩, h3⟩, ⟨h4, h5⟩, h6⟩, ⟨h7, h8⟩, h9⟩, h10⟩
    refine ⟨?_, ⟨h2, h3⟩, fun j hj => ?_, ⟨h7, h8, fun h => ?_⟩, fun hc => ?_, fun hc => ?_⟩
    · cases hA : arityM n.op with
      | none => rw [hA] at h1; cases h1
      | some p =>
        obtain ⟨lo, hi⟩ := p
        rw [hA] at h1
        simp at h1
        exact ⟨lo, hi, rfl, h1.1, h1.2⟩
    · rcases (by omega : j = 0 ∨ j = 1 ∨ j = 2) with rfl | rfl | rfl
      · exact h4
      · exact h5
      · exact h6
    · rcases h9 with h9 | h9
      · omega
      · exact h9
    · rw [if_pos hc] at h10
      exact mayI_iff.1 h10
    · rw [if_neg hc] at h10
      simpa using h10
  · rintro ⟨⟨lo, hi, h1, h2, h3⟩, ⟨h4, h5⟩, h6, ⟨h7, h8, h9⟩, h10, h11⟩
    refine ⟨⟨⟨⟨⟨?_, h4⟩, h5⟩, ⟨h6 0 (by omega), h6 1 (by omega)⟩, h6 2 (by omega)⟩, ⟨h7, h8⟩, ?_⟩, ?_⟩
    · rw [h1]
      simp [h2, h3]
    · by_cases h : 0 < n.fn
      · exact .inr (h9 h)
      · exact .inl (by omega)
    · split
      · rename_i hc
        exact mayI_iff.2 (h10 hc)
      · rename_i hc
        simpa using h11 hc
def tabB (T : List Nd) : Bool := decide (T[0]? = some trueNd) && decide (T[1]? = some zeroNd) && (List.range T.length).all (fun i => standsB (T.getD i trueNd) i) && decide T.Nodup
theorem tabB_iff {T : List Nd} : tabB T = true ↔ TabOk T := by
  unfold tabB
  simp only [Bool.and_eq_true, decide_eq_true_eq, List.all_eq_true, List.mem_range, standsB_iff]
  constructor
  · rintro ⟨⟨⟨h0, h1⟩, h2⟩, h3⟩
    refine ⟨h0, h1, fun i n hn => ?_, h3⟩
    obtain ⟨hi, hn⟩ := List.getElem?_eq_some_iff.1 hn
    have := h2 i hi
    rw [List.getD_eq_getElem?_getD, List.getElem?_eq_getElem hi, hn] at this
    exact this
  · rintro ⟨h0, h1, h2, h3⟩
    refine ⟨⟨⟨h0, h1⟩, fun i hi => ?_⟩, h3⟩
    rw [List.getD_eq_getElem?_getD, List.getElem?_eq_getElem hi]
    exact h2 i _ (List.getElem?_eq_getElem hi)
structure PutR where
  T : List Nd
  id : Int
  e : Int
def putT (T : List Nd) (n : Nd) (most : Int) : PutR :=
  if tabB T && standsB n T.length then
    if n ∈ T then ⟨T, (T.idxOf n : Nat), 0⟩ else if most ≤ T.length then ⟨[], 0, 40⟩ else ⟨T ++ [n], T.length, 0⟩
  else ⟨[], 0, 2⟩
theorem TabOk.push {T : List Nd} (h : TabOk T) {n : Nd} (hs : Stands n T.length) (hn : n ∉ T) : TabOk (T ++ [n]) := by
  have hl := h.len
  refine ⟨?_, ?_, fun i m hm => ?_, ?_⟩
  · rw [List.getElem?_append_left (by omega)]
    exact h.t0
  · rw [List.getElem?_append_left (by omega)]
    exact h.t1
  · by_cases hi : i < T.length
    · rw [List.getElem?_append_left hi] at hm
      exact h.st i m hm
    · have hlt := (List.getElem?_eq_some_iff.1 hm).1
      simp at hlt
      obtain rfl : i = T.length := by omega
      rw [List.getElem?_append_right (Nat.le_refl _), Nat.sub_self] at hm
      simp at hm
      rw [← hm]
      exact hs
  · rw [List.nodup_append]
    exact ⟨h.once, by simp, fun a ha b hb e => hn (by rw [List.mem_singleton] at hb; rw [← hb, ← e]; exact ha)⟩
theorem putT_ok {T : List Nd} {n : Nd} {most : Int} (h : (putT T n most).e = 0) : TabOk T ∧ Stands n T.length ∧ TabOk (putT T n most).T ∧ (∃ k : Nat, (putT T n most).id = k ∧ (putT T n most).T[k]? = some n) ∧ ∃ S, (putT T n most).T = T ++ S ∧ S.length ≤ 1 := by
  unfold putT at h ⊢
  by_cases h1 : (tabB T && standsB n T.length) = true
  · rw [if_pos h1] at h ⊢
    rw [Bool.and_eq_true] at h1
    have ht := tabB_iff.1 h1.1
    have hs := standsB_iff.1 h1.2
    by_cases h2 : n ∈ T
    · rw [if_pos h2] at h ⊢
      refine ⟨ht, hs, ht, ⟨_, rfl, ?_⟩, [], by simp, by simp⟩
      rw [List.getElem?_eq_getElem (List.idxOf_lt_length_iff.2 h2)]
      simp
    · rw [if_neg h2] at h ⊢
      by_cases h3 : most ≤ (T.length : Int)
      · rw [if_pos h3] at h
        cases h
      · rw [if_neg h3] at h ⊢
        exact ⟨ht, hs, ht.push hs h2, ⟨T.length, rfl, by simp⟩, [n], rfl, by simp⟩
  · rw [if_neg h1] at h
    cases h
end Go.Proofs.YtlipnnibagidiaaGreat
