/- Signs as keys; what a round has found. -/
import Derived.Test.YtbgbhfmchpdkcaaEuU
namespace Go.Proofs.Ytbgbhfmchpdkcaa
open Go.RowKit
open Go.Maps (Keyed)

def sgCells (fn len : Int) (r : Nat → Int) : Array Value := #[.int .i64 fn, .int .i64 len, .int .i64 (r 0), .int .i64 (r 1), .int .i64 (r 2)]
def signVal (fn len : Int) (r : Nat → Int) : Value := .agg (sgCells fn len r)
theorem sign_at : Try.prog.keyTypeAt 4 90 = true := by kernel_rfl
theorem sign_wide : (match Try.prog.underlying 90 with | some (.array _ _) | some (.struct _) => true | _ => false) = true := by kernel_rfl
set_option maxRecDepth 100000 in
theorem sign_key : Keyed Try.prog 90 := Keyed.of_law (deep_law_laid laidOut (m := 4) (by omega) (of_decide_eq_true (by kernel_rfl)) sign_at sign_wide)
theorem sign_keyT : Try.prog.keyType 90 = true := by kernel_rfl
theorem sign_cells : Try.prog.cellsOf 90 = 5 := by kernel_rfl
def In64 (x : Int) : Prop := -9223372036854775808 ≤ x ∧ x ≤ 9223372036854775807
set_option maxRecDepth 100000 in
theorem sign_lits (m : Nat) {fn len : Int} {r : Nat → Int} (h1 : In64 fn) (h2 : In64 len) (h3 : ∀ j, In64 (r j)) : ∃ L, Try.prog.keyLits (m + 3 + 1) 90 (sgCells fn len r).toList = some L := by
  have w0 := int_wf h1.1 h1.2
  have w1 := int_wf h2.1 h2.2
  have w2 := int_wf (h3 0).1 (h3 0).2
  have w3 := int_wf (h3 1).1 (h3 1).2
  have w4 := int_wf (h3 2).1 (h3 2).2
  have hr : List.range 5 = [0, 1, 2, 3, 4] := rfl
  unfold Program.keyLits
  rw [Try.underlying90]
  simp [sgCells, sign_cells, cells_int, Program.keyLits, Try.underlying3, w0, w1, w2, w3, w4, hr]
theorem sign_keyOf {fn len : Int} {r : Nat → Int} (h1 : In64 fn) (h2 : In64 len) (h3 : ∀ j, In64 (r j)) : ∃ kl, keyOf Try.prog 90 (signVal fn len r) = some kl := by
  obtain ⟨m, hm⟩ := types_size3
  obtain ⟨L, hL⟩ := sign_lits m h1 h2 h3
  unfold keyOf
  rw [Try.underlying90]
  simp only
  rw [hm, if_pos (by rw [sign_keyT]; simp [Value.formed, signVal, sgCells, Try.underlying90, sign_cells])]
  refine ⟨.string (keyBytes L), ?_⟩
  have : (signVal fn len r).cells.toList = (sgCells fn len r).toList := rfl
  rw [this, hL]
  rfl
theorem signVal_inj {fn len fn' len' : Int} {r r' : Nat → Int} (h : signVal fn len r = signVal fn' len' r') : fn = fn' ∧ len = len' ∧ ∀ j, j < 3 → r j = r' j := by
  simp [signVal, sgCells] at h
  obtain ⟨h1, h2, h3, h4, h5⟩ := h
  exact ⟨h1, h2, fun j hj => match j, hj with | 0, _ => h3 | 1, _ => h4 | 2, _ => h5⟩
def updR (r : Nat → Int) (k : Nat) (v : Int) (j : Nat) : Int := if j = k then v else r j
theorem sg_set (fn len : Int) (r : Nat → Int) (k : Nat) (hk : k < 3) (v : Int) : (sgCells fn len r).setIfInBounds (2 + k) (.int .i64 v) = sgCells fn len (updR r k v) := by
  match k, hk with
  | 0, _ => simp [sgCells, updR]
  | 1, _ => simp [sgCells, updR]
  | 2, _ => simp [sgCells, updR]

/-- The places of a node's arguments' least ones. -/
def RepsOf (T : List Nd) (J : List Jn) (n : Nd) (k : Nat) (r : Nat → Int) : Prop := (∀ j : Nat, j < k → RepR (T.length + 1) J (n.arg j) (r j)) ∧ ∀ j : Nat, k ≤ j → r j = 0
theorem RepsOf.in64 {T : List Nd} {J : List Jn} {n : Nd} {k : Nat} {r : Nat → Int} (h : RepsOf T J n k r) (hT : T.length ≤ 4000) (j : Nat) : In64 (r j) := by
  unfold In64
  rcases Nat.lt_or_ge j k with hj | hj
  · have := (h.1 j hj).1
    omega
  · rw [h.2 j hj]
    decide
theorem RepsOf.one {T : List Nd} {J : List Jn} {n m : Nd} {k : Nat} {r r' : Nat → Int} (h : RepsOf T J n k r) (g : RepsOf T J m k r') (e : ∀ j : Nat, j < k → cls J (n.arg j) = cls J (m.arg j)) : r = r' := by
  funext j
  rcases Nat.lt_or_ge j k with hj | hj
  · exact (h.1 j hj).one (g.1 j hj) (e j hj)
  · rw [h.2 j hj, g.2 j hj]
theorem RepsOf.push {T : List Nd} {J : List Jn} {n : Nd} {k : Nat} {r : Nat → Int} (h : RepsOf T J n k r) {v : Int} (hv : RepR (T.length + 1) J (n.arg k) v) : RepsOf T J n (k + 1) (updR r k v) := by
  refine ⟨fun j hj => ?_, fun j hj => ?_⟩
  · unfold updR
    by_cases e : j = k
    · subst e
      rw [if_pos rfl]
      exact hv
    · rw [if_neg e]
      exact h.1 j (by omega)
  · unfold updR
    rw [if_neg (by omega)]
    exact h.2 j (by omega)
/-- What the map holds is sound. -/
def OfS (T : List Nd) (S : Int → Prop) (f : Value → Option Value) : Prop := ∀ key v, f key = some v → ∃ (p : Nat) (n : Nd) (r : Nat → Int), v = .int .i64 p ∧ T[p]? = some n ∧ n.op = 13 ∧ key = signVal n.fn n.len r ∧ ∀ j : Nat, (j : Int) < n.len → Cg T S (n.arg j) (r j)
/-- Nothing joined: what was gone over is closed. -/
structure RndC (T : List Nd) (J : List Jn) (f : Value → Option Value) (i : Nat) : Prop where
  apps : ∀ (p : Nat) (n : Nd), p < i → T[p]? = some n → n.op = 13 → ∃ (r : Nat → Int) (p' : Int), RepsOf T J n n.len.toNat r ∧ f (signVal n.fn n.len r) = some (.int .i64 p') ∧ cls J p = cls J p'
  nots : ∀ (p : Nat) (n : Nd), p < i → T[p]? = some n → n.op = 1 → NotOk (cls J) T.length p n.a0
theorem RndC.clo {T : List Nd} {J : List Jn} {f : Value → Option Value} (h : RndC T J f T.length) : Clo T (cls J) := by
  refine ⟨fun i n hn ho => h.nots i n (List.getElem?_eq_some_iff.1 hn).1 hn ho, fun i k n m hn hm ho ho' hf hl hj => ?_⟩
  obtain ⟨r, p, h1, h2, h3⟩ := h.apps i n (List.getElem?_eq_some_iff.1 hn).1 hn ho
  obtain ⟨r', p', g1, g2, g3⟩ := h.apps k m (List.getElem?_eq_some_iff.1 hm).1 hm ho'
  have e : r = r' := by
    rw [← hl] at g1
    exact h1.one g1 fun j hj2 => hj j (by omega)
  subst e
  rw [hf, hl, g2] at h2
  injection h2 with h2
  injection h2 with _ h2
  rw [h3, g3, h2]
theorem RndC.zero (T : List Nd) (J : List Jn) (f : Value → Option Value) : RndC T J f 0 := ⟨fun _ _ h => absurd h (Nat.not_lt_zero _), fun _ _ h => absurd h (Nat.not_lt_zero _)⟩
theorem RndC.skip {T : List Nd} {J : List Jn} {f : Value → Option Value} {i : Nat} {n : Nd} (h : RndC T J f i) (hn : T[i]? = some n) (h1 : n.op ≠ 1) (h2 : n.op ≠ 13) : RndC T J f (i + 1) := by
  refine ⟨fun p m hp hm ho => ?_, fun p m hp hm ho => ?_⟩
  · rcases Nat.lt_succ_iff_lt_or_eq.1 hp with hp | rfl
    · exact h.apps p m hp hm ho
    · rw [hn] at hm; injection hm with hm; subst hm; exact absurd ho h2
  · rcases Nat.lt_succ_iff_lt_or_eq.1 hp with hp | rfl
    · exact h.nots p m hp hm ho
    · rw [hn] at hm; injection hm with hm; subst hm; exact absurd ho h1
theorem RndC.not_ {T : List Nd} {J : List Jn} {f : Value → Option Value} {i : Nat} {n : Nd} (h : RndC T J f i) (hn : T[i]? = some n) (h1 : n.op = 1) (h2 : NotOk (cls J) T.length i n.a0) : RndC T J f (i + 1) := by
  refine ⟨fun p m hp hm ho => ?_, fun p m hp hm ho => ?_⟩
  · rcases Nat.lt_succ_iff_lt_or_eq.1 hp with hp | rfl
    · exact h.apps p m hp hm ho
    · rw [hn] at hm; injection hm with hm; subst hm; rw [h1] at ho; cases ho
  · rcases Nat.lt_succ_iff_lt_or_eq.1 hp with hp | rfl
    · exact h.nots p m hp hm ho
    · rw [hn] at hm; injection hm with hm; subst hm; exact h2
/-- An application, found or put. -/
theorem RndC.app {T : List Nd} {J : List Jn} {f g : Value → Option Value} {i : Nat} {n : Nd} {r : Nat → Int} {p' : Int} (h : RndC T J f i) (hn : T[i]? = some n) (h1 : n.op = 13) (hr : RepsOf T J n n.len.toNat r) (hg : g (signVal n.fn n.len r) = some (.int .i64 p')) (hc : cls J i = cls J p')
    (hfg : ∀ key v, f key = some v → g key = some v) : RndC T J g (i + 1) := by
  refine ⟨fun p m hp hm ho => ?_, fun p m hp hm ho => ?_⟩
  · rcases Nat.lt_succ_iff_lt_or_eq.1 hp with hp | rfl
    · obtain ⟨r, p', g1, g2, g3⟩ := h.apps p m hp hm ho
      exact ⟨r, p', g1, hfg _ _ g2, g3⟩
    · rw [hn] at hm; injection hm with hm; subst hm; exact ⟨r, p', hr, hg, hc⟩
  · rcases Nat.lt_succ_iff_lt_or_eq.1 hp with hp | rfl
    · exact h.nots p m hp hm ho
    · rw [hn] at hm; injection hm with hm; subst hm; rw [h1] at ho; cases ho
end Go.Proofs.Ytbgbhfmchpdkcaa
