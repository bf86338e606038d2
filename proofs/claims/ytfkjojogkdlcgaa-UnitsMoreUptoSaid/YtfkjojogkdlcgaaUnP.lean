/- What propagating does, on lists. -/
import Derived.Test.YtfkjojogkdlcgaaOwnRow
import Derived.Test.YtfkjojogkdlcgaaMade
namespace Go.Proofs.Ytfkjojogkdlcgaa
open Go.Lib

def negM (x : Int) : Int := if x % 2 = 0 then x + 1 else x - 1
def wideM (x : Int) : Bool := decide (x < 0) || decide (1048576 < x)
def plainM (c : List Int) : List Int := (makeM c).filter fun x => !wideM x
/-- A literal's value under those put. -/
def valL (lits : List Int) (x : Int) : Int := if x ∈ lits then 1 else if negM x ∈ lits then 2 else 0
structure LitsOk (lits : List Int) : Prop where
  rng : ∀ x ∈ lits, 0 ≤ x ∧ x ≤ 1048576
  dis : lits.Pairwise fun x y => x / 2 ≠ y / 2
/-- Cells that hold what is put. -/
def Rep (A lits : List Int) : Prop := ∀ n : Nat, A[n]?.getD 0 = valL lits (2 * n)

theorem wide_iff (x : Int) : wideM x = false ↔ 0 ≤ x ∧ x ≤ 1048576 := by
  unfold wideM
  simp
theorem negM_half {x : Int} : negM x / 2 = x / 2 := by unfold negM; split <;> omega
theorem negM_negM {x : Int} : negM (negM x) = x := by unfold negM; split <;> split <;> omega
theorem negM_ne (x : Int) : negM x ≠ x := by unfold negM; split <;> omega
theorem half_cases {x y : Int} (h : x / 2 = y / 2) : x = y ∨ x = negM y := by
  unfold negM
  split <;> omega
theorem LitsOk.inj {lits : List Int} (h : LitsOk lits) {x y : Int} (hx : x ∈ lits) (hy : y ∈ lits) (e : x / 2 = y / 2) : x = y := by
  by_cases hne : x = y
  · exact hne
  · exfalso
    obtain ⟨i, hi, rfl⟩ := List.mem_iff_getElem.1 hx
    obtain ⟨j, hj, rfl⟩ := List.mem_iff_getElem.1 hy
    have hp := List.pairwise_iff_getElem.1 h.dis
    rcases Nat.lt_trichotomy i j with hij | hij | hij
    · exact hp i j hi hj hij e
    · subst hij; exact hne rfl
    · exact hp j i hj hi hij e.symm
theorem LitsOk.not_both {lits : List Int} (h : LitsOk lits) {x : Int} (hx : x ∈ lits) : negM x ∉ lits := fun hn => negM_ne x (h.inj hn hx negM_half)
theorem LitsOk.nil : LitsOk [] := ⟨(fun x hx => by cases hx), List.Pairwise.nil⟩
theorem LitsOk.push {lits : List Int} (h : LitsOk lits) {x : Int} (hx : 0 ≤ x ∧ x ≤ 1048576) (hv : valL lits x = 0) : LitsOk (lits ++ [x]) := by
  refine ⟨fun y hy => ?_, List.pairwise_append.2 ⟨h.dis, by simp, fun y hy z hz => ?_⟩⟩
  · rcases List.mem_append.1 hy with hy | hy
    · exact h.rng y hy
    · rw [List.mem_singleton.1 hy]; exact hx
  · rw [List.mem_singleton.1 hz]
    intro e
    unfold valL at hv
    rcases half_cases e with e | e
    · subst e; rw [if_pos hy] at hv; cases hv
    · subst e
      by_cases hxl : x ∈ lits
      · rw [if_pos hxl] at hv; cases hv
      · rw [if_neg hxl, if_pos hy] at hv; cases hv
theorem valL_zero {lits : List Int} {x : Int} : valL lits x = 0 ↔ x ∉ lits ∧ negM x ∉ lits := by
  unfold valL
  split
  · simp [*]
  · split <;> simp [*]
theorem valL_one {lits : List Int} {x : Int} : valL lits x = 1 ↔ x ∈ lits := by
  unfold valL
  split
  · simp [*]
  · split <;> simp [*]
theorem valL_two {lits : List Int} {x : Int} : valL lits x = 2 ↔ x ∉ lits ∧ negM x ∈ lits := by
  unfold valL
  split
  · simp [*]
  · split <;> simp [*]
theorem valL_cases (lits : List Int) (x : Int) : valL lits x = 0 ∨ valL lits x = 1 ∨ valL lits x = 2 := by
  unfold valL
  split
  · exact .inr (.inl rfl)
  · split
    · exact .inr (.inr rfl)
    · exact .inl rfl

theorem rep_val {A lits : List Int} (hr : Rep A lits) (ok : LitsOk lits) {y : Int} (h0 : 0 ≤ y) : valM A y = valL lits y := by
  unfold valM
  rw [if_neg (by omega)]
  have hn := hr (y / 2).toNat
  have e2 : (2 * ((y / 2).toNat : Int)) = if y % 2 = 0 then y else negM y := by unfold negM; split <;> omega
  rw [e2] at hn
  have key : (match A[(y / 2).toNat]? with
    | none => (0 : Int)
    | some v => if v = 1 then (if y % 2 = 0 then 1 else 2) else if v = 2 then (if y % 2 = 0 then 2 else 1) else 0) = (fun v : Int => if v = 1 then (if y % 2 = 0 then 1 else 2) else if v = 2 then (if y % 2 = 0 then 2 else 1) else 0) (A[(y / 2).toNat]?.getD 0) := by
    cases A[(y / 2).toNat]? <;> simp
  refine Eq.trans key ?_
  rw [hn]
  by_cases hp : y % 2 = 0
  · simp only [if_pos hp]
    rcases valL_cases lits y with h | h | h <;> rw [h] <;> simp
  · simp only [if_neg hp]
    by_cases h1 : y ∈ lits
    · rw [valL_one.2 h1, valL_two.2 ⟨ok.not_both h1, by rw [negM_negM]; exact h1⟩]
      simp
    · by_cases h2 : negM y ∈ lits
      · rw [valL_two.2 ⟨h1, h2⟩, valL_one.2 h2]
        simp
      · rw [valL_zero.2 ⟨h1, h2⟩, valL_zero.2 ⟨h2, by rw [negM_negM]; exact h1⟩]
        simp
theorem rep_grow {A lits : List Int} (hr : Rep A lits) (k : Nat) : Rep (A ++ List.replicate k 0) lits := by
  intro n
  rw [← hr n]
  rcases Nat.lt_or_ge n A.length with h | h
  · rw [List.getElem?_append_left h]
  · rw [List.getElem?_append_right h, List.getElem?_eq_none h]
    rw [List.getElem?_replicate]
    split <;> rfl
theorem rep_set {A lits : List Int} (hr : Rep A lits) {x : Int} (hv : valL lits x = 0) {q : Nat} (hq : x / 2 = q) (hl : q < A.length) : Rep (A.set q (1 + x % 2)) (lits ++ [x]) := by
  obtain ⟨v1, v2⟩ := valL_zero.1 hv
  intro n
  by_cases e : q = n
  · subst e
    rw [List.getElem?_set_self hl]
    by_cases hp : x % 2 = 0
    · have e2 : 2 * (q : Int) = x := by omega
      rw [e2, valL_one.2 (by simp), hp]; rfl
    · have e2 : 2 * (q : Int) = negM x := by unfold negM; rw [if_neg hp]; omega
      rw [e2, valL_two.2 ⟨by simp [v2, negM_ne], by rw [negM_negM]; simp⟩]
      have : x % 2 = 1 := by omega
      rw [this]; rfl
  · rw [List.getElem?_set_ne e, hr n]
    have n1 : (2 * (n : Int)) ≠ x := by omega
    have n2 : negM (2 * (n : Int)) ≠ x := by unfold negM; split <;> omega
    unfold valL
    simp [n1, n2]

/-- A clause's state: how many literals are open so far, and the last of them. -/
def stF (val : Int → Int) : List Int → Nat → Int → Int × Int
  | [], o, l => if o = 0 then (1, -1) else if o = 1 then (2, l) else (3, -1)
  | x :: r, o, l => if val x = 1 then (0, -1) else if val x = 0 then stF val r (o + 1) x else stF val r o l
theorem st_rep {vals : List Int} {val : Int → Int} : ∀ (c : List Int) (o : Nat) (l : Int), (∀ x ∈ c, valM vals x = val x) → stM vals c o l = stF val c o l
  | [], _, _, _ => rfl
  | x :: r, o, l, h => by
    unfold stM stF
    rw [h x List.mem_cons_self, st_rep r (o + 1) x fun y hy => h y (List.mem_cons_of_mem _ hy), st_rep r o l fun y hy => h y (List.mem_cons_of_mem _ hy)]
theorem stF_congr {val val' : Int → Int} : ∀ (c : List Int) (o : Nat) (l : Int), (∀ x ∈ c, val x = val' x) → stF val c o l = stF val' c o l
  | [], _, _, _ => rfl
  | x :: r, o, l, h => by
    unfold stF
    rw [h x List.mem_cons_self, stF_congr r (o + 1) x fun y hy => h y (List.mem_cons_of_mem _ hy), stF_congr r o l fun y hy => h y (List.mem_cons_of_mem _ hy)]
def opens (val : Int → Int) (c : List Int) : List Int := c.filter fun x => decide (val x = 0)
theorem stF_spec (val : Int → Int) : ∀ (c : List Int) (o : Nat) (l : Int), stF val c o l =
    if ∃ x ∈ c, val x = 1 then (0, -1) else if o + (opens val c).length = 0 then (1, -1) else if o + (opens val c).length = 1 then (2, (opens val c).getLastD l) else (3, -1)
  | [], o, l => by
    unfold stF opens
    simp
  | x :: r, o, l => by
    unfold stF
    by_cases h1 : val x = 1
    · rw [if_pos h1, if_pos ⟨x, List.mem_cons_self, h1⟩]
    · rw [if_neg h1]
      have key : (∃ y ∈ x :: r, val y = 1) ↔ ∃ y ∈ r, val y = 1 := by
        constructor
        · rintro ⟨y, hy, hv⟩
          rcases List.mem_cons.1 hy with rfl | hy
          · exact absurd hv h1
          · exact ⟨y, hy, hv⟩
        · rintro ⟨y, hy, hv⟩
          exact ⟨y, List.mem_cons_of_mem _ hy, hv⟩
      simp only [key]
      by_cases h2 : val x = 0
      · have e : opens val (x :: r) = x :: opens val r := by unfold opens; rw [List.filter_cons_of_pos (by simp [h2])]
        rw [if_pos h2, stF_spec val r (o + 1) x, e, List.length_cons]
        have a1 : o + 1 + (opens val r).length = o + ((opens val r).length + 1) := by omega
        rw [a1]
        congr 3
        cases opens val r <;> simp [List.getLastD]
      · have e : opens val (x :: r) = opens val r := by unfold opens; rw [List.filter_cons_of_neg (by simp [h2])]
        rw [if_neg h2, stF_spec val r o l, e]
/-- States, by what they say. -/
def FalseC (val : Int → Int) (c : List Int) : Prop := ∀ x ∈ c, val x ≠ 1 ∧ val x ≠ 0
theorem st_one {val : Int → Int} {c : List Int} : (stF val c 0 (-1)).1 = 1 ↔ FalseC val c := by
  rw [stF_spec]
  constructor
  · intro h x hx
    split at h
    · cases h
    · rename_i hno
      split at h
      · rename_i h0
        refine ⟨fun hv => hno ⟨x, hx, hv⟩, fun hv => ?_⟩
        have : x ∈ opens val c := List.mem_filter.2 ⟨hx, by simp [hv]⟩
        have := List.length_pos_of_mem this
        omega
      · split at h <;> cases h
  · intro h
    rw [if_neg (fun ⟨x, hx, hv⟩ => (h x hx).1 hv), if_pos]
    have : opens val c = [] := List.filter_eq_nil_iff.2 fun x hx => by simp [(h x hx).2]
    rw [this]; rfl
/-- A clause all of whose literals but one are false, that one open. -/
theorem st_two {val : Int → Int} {c : List Int} (h : (stF val c 0 (-1)).1 = 2) : ∃ x, (stF val c 0 (-1)).2 = x ∧ x ∈ c ∧ val x = 0 ∧ ∀ y ∈ c, y = x ∨ (val y ≠ 1 ∧ val y ≠ 0) := by
  rw [stF_spec] at h ⊢
  by_cases h1 : ∃ x ∈ c, val x = 1
  · rw [if_pos h1] at h; cases h
  rw [if_neg h1] at h ⊢
  by_cases h2 : 0 + (opens val c).length = 0
  · rw [if_pos h2] at h; cases h
  rw [if_neg h2] at h ⊢
  by_cases h3 : 0 + (opens val c).length = 1
  · rw [if_pos h3]
    obtain ⟨x, hx⟩ := List.length_eq_one_iff.1 (by omega : (opens val c).length = 1)
    have hm : x ∈ opens val c := by rw [hx]; simp
    obtain ⟨m1, m2⟩ := List.mem_filter.1 hm
    refine ⟨x, by rw [hx]; rfl, m1, by simpa using m2, fun y hy => ?_⟩
    by_cases e : y = x
    · exact .inl e
    · refine .inr ⟨fun hv => h1 ⟨y, hy, hv⟩, fun hv => e ?_⟩
      have : y ∈ opens val c := List.mem_filter.2 ⟨hy, by simp [hv]⟩
      rw [hx] at this
      exact List.mem_singleton.1 this
  · rw [if_neg h3] at h; cases h
theorem st_two_of {val : Int → Int} {c : List Int} {x : Int} (hn : c.Nodup) (hx : x ∈ c) (hv : val x = 0) (ho : ∀ y ∈ c, y = x ∨ (val y ≠ 1 ∧ val y ≠ 0)) : stF val c 0 (-1) = (2, x) := by
  rw [stF_spec]
  have h1 : ¬ ∃ y ∈ c, val y = 1 := by
    rintro ⟨y, hy, hv1⟩
    rcases ho y hy with rfl | h
    · rw [hv] at hv1; cases hv1
    · exact h.1 hv1
  have hm : x ∈ opens val c := List.mem_filter.2 ⟨hx, by simp [hv]⟩
  have he : opens val c = [x] := by
    have hn2 : (opens val c).Nodup := hn.filter _
    have hall : ∀ y ∈ opens val c, y = x := by
      intro y hy
      obtain ⟨m1, m2⟩ := List.mem_filter.1 hy
      rcases ho y m1 with e | e
      · exact e
      · exact absurd (by simpa using m2) e.2
    match hc : opens val c, hn2, hall, hm with
    | [y], _, hall, _ => rw [hall y (by simp)]
    | y :: z :: r, hn2, hall, _ =>
      exfalso
      have e1 := hall y (by simp)
      have e2 := hall z (by simp)
      rw [e1, e2] at hn2
      simp at hn2
  rw [if_neg h1, he]
  simp
end Go.Proofs.Ytfkjojogkdlcgaa
