/- The plain side of layer 23: nodes, what must be one, what is bad, conflicts. -/
import Derived.Test.YtlipnnibagidiaaGreatPaths
namespace Go.Proofs.YtlipnnibagidiaaGreat

structure Nd where
  op : Int
  len : Int
  a0 : Int
  a1 : Int
  a2 : Int
  sort : Int
  fn : Int
  num : Int
instance : Inhabited Nd := ⟨⟨0, 0, 0, 0, 0, 0, 0, 0⟩⟩
def Nd.arg (n : Nd) (j : Nat) : Int := if j = 0 then n.a0 else if j = 1 then n.a1 else n.a2

/-- How many arguments a kind has, from least to most. -/
def arityM (op : Int) : Option (Int × Int) :=
  if op = 0 ∨ op = 10 then some (0, 0) else if op = 1 ∨ op = 11 then some (1, 1) else if op = 7 then some (3, 3) else if op = 13 then some (0, 3) else if 2 ≤ op ∧ op ≤ 12 then some (2, 2) else none

/-- A node may stand at a place. -/
structure Stands (n : Nd) (at_ : Int) : Prop where
  ar : ∃ lo hi, arityM n.op = some (lo, hi) ∧ lo ≤ n.len ∧ n.len ≤ hi
  srt : 0 ≤ n.sort ∧ n.sort < 6
  args : ∀ j : Nat, j < 3 → ((j : Int) < n.len → 0 ≤ n.arg j ∧ n.arg j < at_) ∧ (n.len ≤ j → n.arg j = 0)
  fun_ : 0 ≤ n.fn ∧ n.fn < 12 ∧ (0 < n.fn → n.op = 13)
  numb : (n.op = 10 ∨ n.op = 11 ∨ n.op = 12 → -4611686018427387904 ≤ n.num ∧ n.num ≤ 4611686018427387904) ∧ (¬ (n.op = 10 ∨ n.op = 11 ∨ n.op = 12) → n.num = 0)
def trueNd : Nd := ⟨0, 0, 0, 0, 0, 0, 0, 0⟩
def zeroNd : Nd := ⟨10, 0, 0, 0, 0, 1, 0, 0⟩
/-- A table may be. -/
structure TabOk (T : List Nd) : Prop where
  t0 : T[0]? = some trueNd
  t1 : T[1]? = some zeroNd
  st : ∀ (i : Nat) (n : Nd), T[i]? = some n → Stands n i
  once : T.Nodup
theorem TabOk.len {T : List Nd} (h : TabOk T) : 2 ≤ T.length := (List.getElem?_eq_some_iff.1 h.t1).1
theorem Stands.len {n : Nd} {a : Int} (h : Stands n a) : 0 ≤ n.len ∧ n.len ≤ 3 := by
  obtain ⟨lo, hi, e, h1, h2⟩ := h.ar
  unfold arityM at e
  repeat' split at e
  all_goals first
    | (injection e with e; injection e with e1 e2; subst e1 e2; omega)
    | cases e
theorem Stands.not_ {n : Nd} {a : Int} (h : Stands n a) (ho : n.op = 1) : n.len = 1 := by
  obtain ⟨lo, hi, e, h1, h2⟩ := h.ar
  rw [ho] at e
  simp [arityM] at e
  omega
theorem Stands.not0 {n : Nd} {a : Int} (h : Stands n a) (ho : n.op = 1) : 0 ≤ n.a0 ∧ n.a0 < a := by
  have := (h.args 0 (by omega)).1 (by rw [h.not_ ho]; decide)
  exact this

/-- A node's sort; -1: there is none. -/
def sortM (T : List Nd) (id : Int) : Int := if id < 0 then -1 else match T[id.toNat]? with
  | some n => n.sort
  | none => -1
def kindOp (op : Int) : Int := if op = 0 then 1 else if op = 1 then 2 else if op = 2 ∨ op = 3 ∨ op = 4 ∨ op = 5 ∨ op = 7 then 3 else if op = 8 ∨ op = 9 then 7 else if op = 12 then 6 else if op = 13 then 8 else 0
def kindEq (s : Int) : Int := if s = 0 then 3 else if s = 1 then 5 else if 2 ≤ s then 4 else 0
def kindM (T : List Nd) (id : Int) : Int := if sortM T id ≠ 0 then 0 else match T[id.toNat]? with
  | some n => if n.op = 6 then kindEq (sortM T n.a0) else kindOp n.op
  | none => 0
def Sided (T : List Nd) (id : Int) : Prop := kindM T id = 4 ∨ kindM T id = 5
/-- A literal that may be. -/
def LitMay (T : List Nd) (x : Int) : Prop := 0 ≤ x ∧ sortM T (x / 2) = 0 ∧ ∀ n, T[(x / 2).toNat]? = some n → n.op ≠ 1
def MayLits (T : List Nd) (L : List Int) : Prop := TabOk T ∧ ∀ x ∈ L, LitMay T x
theorem MayLits.sub {T : List Nd} {L M : List Int} (h : MayLits T L) (hs : ∀ x ∈ M, x ∈ L) : MayLits T M := ⟨h.1, fun x hx => h.2 x (hs x hx)⟩
theorem LitMay.node {T : List Nd} {x : Int} (h : LitMay T x) : ∃ n, T[(x / 2).toNat]? = some n ∧ n.sort = 0 ∧ n.op ≠ 1 ∧ (x / 2).toNat < T.length ∧ 0 ≤ x / 2 := by
  obtain ⟨h0, h1, h2⟩ := h
  unfold sortM at h1
  rw [if_neg (by omega)] at h1
  cases hn : T[(x / 2).toNat]? with
  | none => rw [hn] at h1; cases h1
  | some n =>
    rw [hn] at h1
    exact ⟨n, rfl, h1, h2 n hn, (List.getElem?_eq_some_iff.1 hn).1, by omega⟩

/-- What a node comes to through OpNots. -/
inductive Chain (T : List Nd) : Int → Int → Prop
  | refl (a : Int) : Chain T a a
  | step {i : Nat} {n : Nd} {x : Int} : T[i]? = some n → n.op = 1 → Chain T n.a0 x → Chain T i x
def ArgOf (T : List Nd) (x : Int) : Prop := ∃ (i : Nat) (n : Nd) (j : Nat), T[i]? = some n ∧ n.op = 13 ∧ (j : Int) < n.len ∧ j < 3 ∧ Chain T (n.arg j) x
/-- What is told to euf. -/
def Tell (T : List Nd) (x : Int) : Prop := (kindM T (x / 2) = 4 ∨ kindM T (x / 2) = 5 ∨ kindM T (x / 2) = 8) ∨ ArgOf T (x / 2)
def told (T : List Nd) (L : List Int) (x : Int) : Prop := x ∈ L ∧ Tell T x

theorem Chain.snoc {T : List Nd} {a : Int} {i : Nat} {n : Nd} (h : Chain T a i) (hn : T[i]? = some n) (ho : n.op = 1) : Chain T a n.a0 := by
  generalize e : (i : Int) = x at h
  induction h with
  | refl a => subst e; exact .step hn ho (.refl _)
  | step h1 h2 _ ih => exact .step h1 h2 (ih e)
/-- A chain's last step. -/
theorem Chain.last {T : List Nd} {a x : Int} (h : Chain T a x) : a = x ∨ ∃ (i : Nat) (n : Nd), T[i]? = some n ∧ n.op = 1 ∧ n.a0 = x ∧ Chain T a i := by
  induction h with
  | refl a => exact .inl rfl
  | @step i n x h1 h2 _ ih =>
    rcases ih with e | ⟨k, m, hk, hm, e, hc⟩
    · exact .inr ⟨i, n, h1, h2, e, .refl _⟩
    · exact .inr ⟨k, m, hk, hm, e, .step h1 h2 hc⟩

/-- What must be one. -/
inductive Cg (T : List Nd) (S : Int → Prop) : Int → Int → Prop
  | refl (a : Int) : Cg T S a a
  | symm {a b : Int} : Cg T S a b → Cg T S b a
  | trans {a b c : Int} : Cg T S a b → Cg T S b c → Cg T S a c
  | neg {x : Int} : S x → x % 2 = 1 → Cg T S (x / 2) T.length
  | pos {x : Int} : S x → x % 2 = 0 → Cg T S (x / 2) 0
  | side {x : Int} {n : Nd} : S x → x % 2 = 0 → Sided T (x / 2) → T[(x / 2).toNat]? = some n → Cg T S n.a0 n.a1
  | not1 {i : Nat} {n : Nd} : T[i]? = some n → n.op = 1 → Cg T S i 0 → Cg T S n.a0 T.length
  | not2 {i : Nat} {n : Nd} : T[i]? = some n → n.op = 1 → Cg T S i T.length → Cg T S n.a0 0
  | not3 {i : Nat} {n : Nd} : T[i]? = some n → n.op = 1 → Cg T S n.a0 0 → Cg T S i T.length
  | not4 {i : Nat} {n : Nd} : T[i]? = some n → n.op = 1 → Cg T S n.a0 T.length → Cg T S i 0
  | app {i k : Nat} {n m : Nd} : T[i]? = some n → T[k]? = some m → n.op = 13 → m.op = 13 → n.fn = m.fn → n.len = m.len → (∀ j : Nat, (j : Int) < n.len → Cg T S (n.arg j) (m.arg j)) → Cg T S i k

/-- What was told is so by f. -/
structure Has (T : List Nd) (S : Int → Prop) (f : Int → Int) : Prop where
  neg : ∀ x, S x → x % 2 = 1 → f (x / 2) = f T.length
  pos : ∀ x, S x → x % 2 = 0 → f (x / 2) = f 0
  side : ∀ x n, S x → x % 2 = 0 → Sided T (x / 2) → T[(x / 2).toNat]? = some n → f n.a0 = f n.a1
/-- Of an OpNot and its argument. -/
def NotOk (f : Int → Int) (N a b : Int) : Prop := (f a = f 0 → f b = f N) ∧ (f a = f N → f b = f 0) ∧ (f b = f 0 → f a = f N) ∧ (f b = f N → f a = f 0)
/-- f is closed. -/
structure Clo (T : List Nd) (f : Int → Int) : Prop where
  nots : ∀ (i : Nat) (n : Nd), T[i]? = some n → n.op = 1 → NotOk f T.length i n.a0
  apps : ∀ (i k : Nat) (n m : Nd), T[i]? = some n → T[k]? = some m → n.op = 13 → m.op = 13 → n.fn = m.fn → n.len = m.len → (∀ j : Nat, (j : Int) < n.len → f (n.arg j) = f (m.arg j)) → f i = f k
theorem Cg.into {T : List Nd} {S : Int → Prop} {f : Int → Int} (h : Has T S f) (c : Clo T f) {a b : Int} (g : Cg T S a b) : f a = f b := by
  induction g with
  | refl => rfl
  | symm _ ih => exact ih.symm
  | trans _ _ i1 i2 => exact i1.trans i2
  | neg h1 h2 => exact h.neg _ h1 h2
  | pos h1 h2 => exact h.pos _ h1 h2
  | side h1 h2 h3 h4 => exact h.side _ _ h1 h2 h3 h4
  | not1 h1 h2 _ ih => exact (c.nots _ _ h1 h2).1 ih
  | not2 h1 h2 _ ih => exact (c.nots _ _ h1 h2).2.1 ih
  | not3 h1 h2 _ ih => exact (c.nots _ _ h1 h2).2.2.1 ih
  | not4 h1 h2 _ ih => exact (c.nots _ _ h1 h2).2.2.2 ih
  | app h1 h2 h3 h4 h5 h6 _ ih => exact c.apps _ _ _ _ h1 h2 h3 h4 h5 h6 ih
theorem Cg.more {T : List Nd} {S S' : Int → Prop} (hs : ∀ x, S x → S' x) {a b : Int} (g : Cg T S a b) : Cg T S' a b := by
  induction g with
  | refl => exact .refl _
  | symm _ ih => exact ih.symm
  | trans _ _ i1 i2 => exact i1.trans i2
  | neg h1 h2 => exact .neg (hs _ h1) h2
  | pos h1 h2 => exact .pos (hs _ h1) h2
  | side h1 h2 h3 h4 => exact .side (hs _ h1) h2 h3 h4
  | not1 h1 h2 _ ih => exact .not1 h1 h2 ih
  | not2 h1 h2 _ ih => exact .not2 h1 h2 ih
  | not3 h1 h2 _ ih => exact .not3 h1 h2 ih
  | not4 h1 h2 _ ih => exact .not4 h1 h2 ih
  | app h1 h2 h3 h4 h5 h6 _ ih => exact .app h1 h2 h3 h4 h5 h6 ih

/-- The least that is one with a. -/
def IsRep (R : Int → Int → Prop) (N a r : Int) : Prop := (0 ≤ r ∧ r ≤ N) ∧ R a r ∧ ∀ b, 0 ≤ b → b ≤ N → R a b → r ≤ b
def Classes (T : List Nd) (S : Int → Prop) (cs : List Int) : Prop := cs.length = T.length + 1 ∧ ∀ (i : Nat) (h : i < cs.length), IsRep (Cg T S) T.length i cs[i]
theorem Classes.one {T : List Nd} {S : Int → Prop} {cs ds : List Int} (h : Classes T S cs) (k : Classes T S ds) : cs = ds := by
  refine List.ext_getElem (h.1.trans k.1.symm) fun i h1 h2 => ?_
  have a := h.2 i h1
  have b := k.2 i h2
  exact Int.le_antisymm (a.2.2 _ b.1.1 b.1.2 b.2.1) (b.2.2 _ a.1.1 a.1.2 a.2.1)
theorem Classes.rng {T : List Nd} {S : Int → Prop} {cs : List Int} (h : Classes T S cs) : ∀ x ∈ cs, 0 ≤ x ∧ x ≤ T.length := by
  intro x hx
  obtain ⟨i, hi, rfl⟩ := List.mem_iff_getElem.1 hx
  exact (h.2 i hi).1
theorem Classes.same {T : List Nd} {S : Int → Prop} {cs : List Int} (h : Classes T S cs) {i k : Nat} (hi : i < cs.length) (hk : k < cs.length) (g : Cg T S i k) : cs[i] = cs[k] := by
  have a := h.2 i hi
  have b := h.2 k hk
  exact Int.le_antisymm (a.2.2 _ b.1.1 b.1.2 (g.trans b.2.1)) (b.2.2 _ a.1.1 a.1.2 (g.symm.trans a.2.1))

def Bad (T : List Nd) (S : Int → Prop) : Prop := Cg T S 0 T.length ∨ ∃ x n, S x ∧ x % 2 = 1 ∧ Sided T (x / 2) ∧ T[(x / 2).toNat]? = some n ∧ Cg T S n.a0 n.a1
theorem Bad.more {T : List Nd} {S S' : Int → Prop} (hs : ∀ x, S x → S' x) (h : Bad T S) : Bad T S' := by
  rcases h with h | ⟨x, n, h1, h2, h3, h4, h5⟩
  · exact .inl (h.more hs)
  · exact .inr ⟨x, n, hs x h1, h2, h3, h4, h5.more hs⟩

/-- Nothing told: nothing is bad. -/
def parM (T : List Nd) : Nat → Nat → Int
  | 0, _ => 0
  | k + 1, i => match T[i]? with
    | some n => if n.op = 1 then 1 - parM T k n.a0.toNat else 0
    | none => 0
theorem parM_enough {T : List Nd} (h : TabOk T) : ∀ (i k : Nat), i < k → parM T k i = parM T (i + 1) i := by
  intro i
  induction i using Nat.strongRecOn with
  | _ i ih =>
    intro k hk
    cases k with
    | zero => omega
    | succ k =>
      simp only [parM]
      cases hn : T[i]? with
      | none => rfl
      | some n =>
        simp only
        by_cases ho : n.op = 1
        · rw [if_pos ho, if_pos ho]
          have := (h.st i n hn).not0 ho
          rw [ih n.a0.toNat (by omega) k (by omega), ih n.a0.toNat (by omega) i (by omega)]
        · rw [if_neg ho, if_neg ho]
def parF (T : List Nd) (a : Int) : Int := if a = T.length then 1 else parM T (a.toNat + 1) a.toNat
theorem parF_not {T : List Nd} (h : TabOk T) {i : Nat} {n : Nd} (hn : T[i]? = some n) (ho : n.op = 1) : parF T i = 1 - parF T n.a0 := by
  have hi := (List.getElem?_eq_some_iff.1 hn).1
  have := (h.st i n hn).not0 ho
  unfold parF
  rw [if_neg (by omega), if_neg (by omega), Int.toNat_natCast]
  conv => lhs; simp only [parM]
  rw [hn]
  simp only
  rw [if_pos ho, parM_enough h n.a0.toNat i (by omega)]
theorem parM_two {T : List Nd} : ∀ (k i : Nat), parM T k i = 0 ∨ parM T k i = 1
  | 0, _ => .inl rfl
  | k + 1, i => by
    simp only [parM]
    cases T[i]? with
    | none => exact .inl rfl
    | some n =>
      simp only
      by_cases ho : n.op = 1
      · rw [if_pos ho]
        rcases parM_two k n.a0.toNat with h | h <;> rw [h]
        · exact .inr rfl
        · exact .inl rfl
      · rw [if_neg ho]
        exact .inl rfl
theorem parF_two {T : List Nd} (a : Int) : parF T a = 0 ∨ parF T a = 1 := by
  unfold parF
  split
  · exact .inr rfl
  · exact parM_two _ _
theorem nil_not_bad {T : List Nd} (h : TabOk T) {S : Int → Prop} (hS : ∀ x, ¬ S x) : ¬ Bad T S := by
  have hN : parF T T.length = 1 := if_pos rfl
  have hl := h.len
  have h0 : parF T 0 = 0 := by
    unfold parF
    rw [if_neg (by omega)]
    simp only [Int.toNat_zero, parM, h.t0, trueNd]
    rfl
  have hc : Clo T (parF T) := by
    refine ⟨fun i n hn ho => ?_, fun i k n m hn hm ho ho' _ _ _ => ?_⟩
    · have e := parF_not h hn ho
      unfold NotOk
      rw [h0, hN]
      have := parF_two (T := T) n.a0
      omega
    · have key : ∀ (i : Nat) (n : Nd), T[i]? = some n → n.op = 13 → parF T i = 0 := fun i n hn ho => by
        have := (List.getElem?_eq_some_iff.1 hn).1
        unfold parF
        rw [if_neg (by omega), Int.toNat_natCast]
        simp only [parM, hn]
        rw [if_neg (by omega)]
      rw [key i n hn ho, key k m hm ho']
  have hh : Has T S (parF T) := ⟨fun x hx => absurd hx (hS x), fun x hx => absurd hx (hS x), fun x _ hx => absurd hx (hS x)⟩
  rintro (g | ⟨x, _, hx, _⟩)
  · have := g.into hh hc
    omega
  · exact hS x hx

/-- Whether literals may be and are bad. -/
def BadL (T : List Nd) (L : List Int) : Prop := MayLits T L ∧ Bad T (told T L)
theorem BadL.more {T : List Nd} {L M : List Int} (h : BadL T L) (hs : ∀ x ∈ L, x ∈ M) (hm : MayLits T M) : BadL T M := ⟨hm, h.2.more fun x hx => ⟨hs x hx.1, hx.2⟩⟩
open Classical in
noncomputable def badB (T : List Nd) (L : List Int) : Bool := decide (BadL T L)
open Classical in
theorem badB_iff {T : List Nd} {L : List Int} : badB T L = true ↔ BadL T L := by
  unfold badB
  exact decide_eq_true_iff
/-- The conflict: what was kept, what is still to be asked. -/
noncomputable def confM (T : List Nd) : List Int → List Int → List Int
  | pre, [] => pre
  | pre, x :: r => if badB T (pre ++ r) = true then confM T pre r else confM T (pre ++ [x]) r
theorem confM_bad {T : List Nd} : ∀ (r pre : List Int), BadL T (pre ++ r) → BadL T (confM T pre r)
  | [], pre, h => by simpa [confM] using h
  | x :: r, pre, h => by
    rw [confM]
    split
    · rename_i hb
      exact confM_bad r pre (badB_iff.1 hb)
    · refine confM_bad r _ ?_
      rwa [List.append_assoc]
theorem confM_sub {T : List Nd} : ∀ (r pre : List Int), ∀ x ∈ confM T pre r, x ∈ pre ++ r
  | [], pre, x, h => by simpa [confM] using h
  | y :: r, pre, x, h => by
    rw [confM] at h
    split at h
    · have := confM_sub r pre x h
      simp at this ⊢
      rcases this with h | h
      · exact .inl h
      · exact .inr (.inr h)
    · have := confM_sub r (pre ++ [y]) x h
      simpa using this
theorem confM_len {T : List Nd} : ∀ (r pre : List Int), (confM T pre r).length ≤ pre.length + r.length
  | [], pre => by simp [confM]
  | y :: r, pre => by
    rw [confM]
    split
    · have := confM_len (T := T) r pre
      simp
      omega
    · have := confM_len (T := T) r (pre ++ [y])
      simp at this ⊢
      omega
theorem confM_min {T : List Nd} : ∀ (r pre : List Int), MayLits T (pre ++ r) → (∀ i, i < pre.length → ¬ BadL T (pre.eraseIdx i ++ r)) → ∀ i, i < (confM T pre r).length → ¬ BadL T ((confM T pre r).eraseIdx i)
  | [], pre, _, h, i, hi => by
    simp only [confM] at hi ⊢
    have := h i hi
    rwa [List.append_nil] at this
  | x :: r, pre, hm, h, i, hi => by
    rw [confM] at hi ⊢
    split
    · rename_i hb
      rw [if_pos hb] at hi
      refine confM_min r pre (hm.sub fun y hy => ?_) (fun k hk hbad => h k hk (hbad.more ?_ (hm.sub ?_))) i hi
      · simp at hy ⊢
        rcases hy with hy | hy
        · exact .inl hy
        · exact .inr (.inr hy)
      · intro y hy
        simp at hy ⊢
        rcases hy with hy | hy
        · exact .inl hy
        · exact .inr (.inr hy)
      · intro y hy
        rw [List.mem_append] at hy ⊢
        exact hy.imp (fun hy => List.mem_of_mem_eraseIdx hy) id
    · rename_i hb
      rw [if_neg hb] at hi
      refine confM_min r (pre ++ [x]) (by rwa [List.append_assoc]) (fun k hk => ?_) i hi
      by_cases hkl : k < pre.length
      · rw [List.eraseIdx_append_of_lt_length hkl, List.append_assoc]
        exact h k hkl
      · have hk' : k = pre.length := by simp at hk; omega
        subst hk'
        rw [List.eraseIdx_append_of_length_le (Nat.le_refl _), Nat.sub_self]
        simp only [List.eraseIdx_cons_zero, List.append_nil]
        exact fun hbad => hb (badB_iff.2 hbad)
end Go.Proofs.YtlipnnibagidiaaGreat

/- The plain side of layer 26: tables that grow, offsets, shared nodes. -/
namespace Go.Proofs.YtlipnnibagidiaaGreat

instance : DecidableEq Nd := fun a b =>
  if h : a.op = b.op ∧ a.len = b.len ∧ a.a0 = b.a0 ∧ a.a1 = b.a1 ∧ a.a2 = b.a2 ∧ a.sort = b.sort ∧ a.fn = b.fn ∧ a.num = b.num then
    .isTrue (by
      obtain ⟨o, l, x, y, z, s, f, n⟩ := a
      obtain ⟨o', l', x', y', z', s', f', n'⟩ := b
      simp only at h
      obtain ⟨rfl, rfl, rfl, rfl, rfl, rfl, rfl, rfl⟩ := h
      rfl)
  else .isFalse (fun e => h (by subst e; exact ⟨rfl, rfl, rfl, rfl, rfl, rfl, rfl, rfl⟩))

def mayI (x : Int) : Bool := decide (-4611686018427387904 ≤ x) && decide (x ≤ 4611686018427387904)
theorem mayI_iff {x : Int} : mayI x = true ↔ -4611686018427387904 ≤ x ∧ x ≤ 4611686018427387904 := by unfold mayI; simp
def argB (n : Nd) (a : Int) (j : Nat) : Bool := (decide ((j : Int) < n.len) && decide (0 ≤ n.arg j) && decide (n.arg j < a)) || (decide (n.len ≤ j) && decide (n.arg j = 0))
def standsB (n : Nd) (a : Int) : Bool :=
  (match arityM n.op with | some (lo, hi) => decide (lo ≤ n.len) && decide (n.len ≤ hi) | none => false)
  && decide (0 ≤ n.sort) && decide (n.sort < 6) && (argB n a 0 && argB n a 1 && argB n a 2) && (decide (0 ≤ n.fn) && decide (n.fn < 12) && (decide (n.fn ≤ 0) || decide (n.op = 13)))
  && (if n.op = 10 ∨ n.op = 11 ∨ n.op = 12 then mayI n.num else decide (n.num = 0))
theorem argB_iff {n : Nd} {a : Int} {j : Nat} : argB n a j = true ↔ ((j : Int) < n.len → 0 ≤ n.arg j ∧ n.arg j < a) ∧ (n.len ≤ j → n.arg j = 0) := by
  unfold argB
  simp only [Bool.or_eq_true, Bool.and_eq_true, decide_eq_true_eq]
  constructor
  · rintro (⟨⟨h1, h2⟩, h3⟩ | ⟨h1, h2⟩)
    · exact ⟨fun _ => ⟨h2, h3⟩, fun h => by omega⟩
    · exact ⟨fun h => by omega, fun _ => h2⟩
  · rintro ⟨h1, h2⟩
    by_cases h : (j : Int) < n.len
    · exact .inl ⟨⟨h, (h1 h).1⟩, (h1 h).2⟩
    · exact .inr ⟨by omega, h2 (by omega)⟩
theorem standsB_iff {n : Nd} {a : Int} : standsB n a = true ↔ Stands n a := by
  unfold standsB
  simp only [Bool.and_eq_true, Bool.or_eq_true, decide_eq_true_eq, argB_iff]
  constructor
  · rintro ⟨⟨⟨⟨⟨h1, h2⟩, h3⟩, ⟨h4, h5⟩, h6⟩, ⟨h7, h8⟩, h9⟩, h10⟩
    refine ⟨?_, ⟨h2, h3⟩, fun j hj => ?_, ⟨h7, h8, fun h => ?_⟩, fun hc => ?_, fun hc => ?_⟩
    · cases hA : arityM n.op with
      | none => rw [hA] at h1; cases h1
      | some p =>
        obtain ⟨lo, hi⟩ := p
        rw [hA] at h1
        simp at h1
        exact ⟨lo, hi, rfl, h1.1, h1.2⟩
    · rcases (by omega : j = 0 ∨ j = 1 ∨ j = 2) with rfl | rfl | rfl
      · exact h4
      · exact h5
      · exact h6
    · rcases h9 with h9 | h9
      · omega
      · exact h9
    · rw [if_pos hc] at h10
      exact mayI_iff.1 h10
    · rw [if_neg hc] at h10
      simpa using h10
  · rintro ⟨⟨lo, hi, h1, h2, h3⟩, ⟨h4, h5⟩, h6, ⟨h7, h8, h9⟩, h10, h11⟩
    refine ⟨⟨⟨⟨⟨?_, h4⟩, h5⟩, ⟨h6 0 (by omega), h6 1 (by omega)⟩, h6 2 (by omega)⟩, ⟨h7, h8⟩, ?_⟩, ?_⟩
    · rw [h1]
      simp [h2, h3]
    · by_cases h : 0 < n.fn
      · exact .inr (h9 h)
      · exact .inl (by omega)
    · split
      · rename_i hc
        exact mayI_iff.2 (h10 hc)
      · rename_i hc
        simpa using h11 hc
def tabB (T : List Nd) : Bool := decide (T[0]? = some trueNd) && decide (T[1]? = some zeroNd) && (List.range T.length).all (fun i => standsB (T.getD i trueNd) i) && decide T.Nodup
theorem tabB_iff {T : List Nd} : tabB T = true ↔ TabOk T := by
  unfold tabB
  simp only [Bool.and_eq_true, decide_eq_true_eq, List.all_eq_true, List.mem_range, standsB_iff]
  constructor
  · rintro ⟨⟨⟨h0, h1⟩, h2⟩, h3⟩
    refine ⟨h0, h1, fun i n hn => ?_, h3⟩
    obtain ⟨hi, hn⟩ := List.getElem?_eq_some_iff.1 hn
    have := h2 i hi
    rw [List.getD_eq_getElem?_getD, List.getElem?_eq_getElem hi, hn] at this
    exact this
  · rintro ⟨h0, h1, h2, h3⟩
    refine ⟨⟨⟨h0, h1⟩, fun i hi => ?_⟩, h3⟩
    rw [List.getD_eq_getElem?_getD, List.getElem?_eq_getElem hi]
    exact h2 i _ (List.getElem?_eq_getElem hi)

/-- A table, a number, an error. -/
structure PutR where
  T : List Nd
  id : Int
  e : Int
def putT (T : List Nd) (n : Nd) (most : Int) : PutR :=
  if tabB T && standsB n T.length then
    if n ∈ T then ⟨T, (T.idxOf n : Nat), 0⟩ else if most ≤ T.length then ⟨[], 0, 40⟩ else ⟨T ++ [n], T.length, 0⟩
  else ⟨[], 0, 2⟩
theorem TabOk.push {T : List Nd} (h : TabOk T) {n : Nd} (hs : Stands n T.length) (hn : n ∉ T) : TabOk (T ++ [n]) := by
  have hl := h.len
  refine ⟨?_, ?_, fun i m hm => ?_, ?_⟩
  · rw [List.getElem?_append_left (by omega)]
    exact h.t0
  · rw [List.getElem?_append_left (by omega)]
    exact h.t1
  · by_cases hi : i < T.length
    · rw [List.getElem?_append_left hi] at hm
      exact h.st i m hm
    · have hlt := (List.getElem?_eq_some_iff.1 hm).1
      simp at hlt
      obtain rfl : i = T.length := by omega
      rw [List.getElem?_append_right (Nat.le_refl _), Nat.sub_self] at hm
      simp at hm
      rw [← hm]
      exact hs
  · rw [List.nodup_append]
    exact ⟨h.once, by simp, fun a ha b hb e => hn (by rw [List.mem_singleton] at hb; rw [← hb, ← e]; exact ha)⟩
theorem putT_ok {T : List Nd} {n : Nd} {most : Int} (h : (putT T n most).e = 0) : TabOk T ∧ Stands n T.length ∧ TabOk (putT T n most).T ∧ (∃ k : Nat, (putT T n most).id = k ∧ (putT T n most).T[k]? = some n) ∧ ∃ S, (putT T n most).T = T ++ S ∧ S.length ≤ 1 := by
  unfold putT at h ⊢
  by_cases h1 : (tabB T && standsB n T.length) = true
  · rw [if_pos h1] at h ⊢
    rw [Bool.and_eq_true] at h1
    have ht := tabB_iff.1 h1.1
    have hs := standsB_iff.1 h1.2
    by_cases h2 : n ∈ T
    · rw [if_pos h2] at h ⊢
      refine ⟨ht, hs, ht, ⟨_, rfl, ?_⟩, [], by simp, by simp⟩
      rw [List.getElem?_eq_getElem (List.idxOf_lt_length_iff.2 h2)]
      simp
    · rw [if_neg h2] at h ⊢
      by_cases h3 : most ≤ (T.length : Int)
      · rw [if_pos h3] at h
        cases h
      · rw [if_neg h3] at h ⊢
        exact ⟨ht, hs, ht.push hs h2, ⟨T.length, rfl, by simp⟩, [n], rfl, by simp⟩
  · rw [if_neg h1] at h
    cases h
end Go.Proofs.YtlipnnibagidiaaGreat
