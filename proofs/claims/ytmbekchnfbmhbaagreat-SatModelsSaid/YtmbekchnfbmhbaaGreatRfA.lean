/- The reference's side (L16/UnP L16/UnQ L16/UnA), for layer 21's seat. -/
import Derived.Test.YtmbekchnfbmhbaaGreatLrnM
import Derived.Test.YtmbekchnfbmhbaaGreatSatD
import Derived.Test.YtmbekchnfbmhbaaGreatModel
namespace Go.Proofs.YtmbekchnfbmhbaaGreat
section
open Go.Lib
def wideM (x : Int) : Bool := decide (x < 0) || decide (1048576 < x)
def plainM (c : List Int) : List Int := (makeM c).filter fun x => !wideM x
/-- A literal's value under those put. -/
def valL (lits : List Int) (x : Int) : Int := if x ∈ lits then 1 else if negM x ∈ lits then 2 else 0
structure LitsOk (lits : List Int) : Prop where
  rng : ∀ x ∈ lits, 0 ≤ x ∧ x ≤ 1048576
  dis : lits.Pairwise fun x y => x / 2 ≠ y / 2
/-- Cells that hold what is put. -/
def Rep (A lits : List Int) : Prop := ∀ n : Nat, A[n]?.getD 0 = valL lits (2 * n)

theorem wide_iff (x : Int) : wideM x = false ↔ 0 ≤ x ∧ x ≤ 1048576 := by
  unfold wideM
  simp
theorem negM_negM {x : Int} : negM (negM x) = x := by unfold negM; split <;> split <;> omega
theorem negM_ne (x : Int) : negM x ≠ x := by unfold negM; split <;> omega
theorem half_cases {x y : Int} (h : x / 2 = y / 2) : x = y ∨ x = negM y := by
  unfold negM
  split <;> omega
theorem LitsOk.inj {lits : List Int} (h : LitsOk lits) {x y : Int} (hx : x ∈ lits) (hy : y ∈ lits) (e : x / 2 = y / 2) : x = y := by
  by_cases hne : x = y
  · exact hne
  · exfalso
    obtain ⟨i, hi, rfl⟩ := List.mem_iff_getElem.1 hx
    obtain ⟨j, hj, rfl⟩ := List.mem_iff_getElem.1 hy
    have hp := List.pairwise_iff_getElem.1 h.dis
    rcases Nat.lt_trichotomy i j with hij | hij | hij
    · exact hp i j hi hj hij e
    · subst hij; exact hne rfl
    · exact hp j i hj hi hij e.symm
theorem LitsOk.not_both {lits : List Int} (h : LitsOk lits) {x : Int} (hx : x ∈ lits) : negM x ∉ lits := fun hn => negM_ne x (h.inj hn hx negM_half)
theorem LitsOk.nil : LitsOk [] := ⟨(fun x hx => by cases hx), List.Pairwise.nil⟩
theorem LitsOk.push {lits : List Int} (h : LitsOk lits) {x : Int} (hx : 0 ≤ x ∧ x ≤ 1048576) (hv : valL lits x = 0) : LitsOk (lits ++ [x]) := by
  refine ⟨fun y hy => ?_, List.pairwise_append.2 ⟨h.dis, by simp, fun y hy z hz => ?_⟩⟩
  · rcases List.mem_append.1 hy with hy | hy
    · exact h.rng y hy
    · rw [List.mem_singleton.1 hy]; exact hx
  · rw [List.mem_singleton.1 hz]
    intro e
    unfold valL at hv
    rcases half_cases e with e | e
    · subst e; rw [if_pos hy] at hv; cases hv
    · subst e
      by_cases hxl : x ∈ lits
      · rw [if_pos hxl] at hv; cases hv
      · rw [if_neg hxl, if_pos hy] at hv; cases hv
theorem valL_zero {lits : List Int} {x : Int} : valL lits x = 0 ↔ x ∉ lits ∧ negM x ∉ lits := by
  unfold valL
  split
  · simp [*]
  · split <;> simp [*]
theorem valL_one {lits : List Int} {x : Int} : valL lits x = 1 ↔ x ∈ lits := by
  unfold valL
  split
  · simp [*]
  · split <;> simp [*]
theorem valL_two {lits : List Int} {x : Int} : valL lits x = 2 ↔ x ∉ lits ∧ negM x ∈ lits := by
  unfold valL
  split
  · simp [*]
  · split <;> simp [*]
theorem valL_cases (lits : List Int) (x : Int) : valL lits x = 0 ∨ valL lits x = 1 ∨ valL lits x = 2 := by
  unfold valL
  split
  · exact .inr (.inl rfl)
  · split
    · exact .inr (.inr rfl)
    · exact .inl rfl

theorem rep_val {A lits : List Int} (hr : Rep A lits) (ok : LitsOk lits) {y : Int} (h0 : 0 ≤ y) : valM A y = valL lits y := by
  unfold valM
  rw [if_neg (by omega)]
  have hn := hr (y / 2).toNat
  have e2 : (2 * ((y / 2).toNat : Int)) = if y % 2 = 0 then y else negM y := by unfold negM; split <;> omega
  rw [e2] at hn
  have key : (match A[(y / 2).toNat]? with
    | none => (0 : Int)
    | some v => if v = 1 then (if y % 2 = 0 then 1 else 2) else if v = 2 then (if y % 2 = 0 then 2 else 1) else 0) = (fun v : Int => if v = 1 then (if y % 2 = 0 then 1 else 2) else if v = 2 then (if y % 2 = 0 then 2 else 1) else 0) (A[(y / 2).toNat]?.getD 0) := by
    cases A[(y / 2).toNat]? <;> simp
  refine Eq.trans key ?_
  rw [hn]
  by_cases hp : y % 2 = 0
  · simp only [if_pos hp]
    rcases valL_cases lits y with h | h | h <;> rw [h] <;> simp
  · simp only [if_neg hp]
    by_cases h1 : y ∈ lits
    · rw [valL_one.2 h1, valL_two.2 ⟨ok.not_both h1, by rw [negM_negM]; exact h1⟩]
      simp
    · by_cases h2 : negM y ∈ lits
      · rw [valL_two.2 ⟨h1, h2⟩, valL_one.2 h2]
        simp
      · rw [valL_zero.2 ⟨h1, h2⟩, valL_zero.2 ⟨h2, by rw [negM_negM]; exact h1⟩]
        simp
theorem rep_grow {A lits : List Int} (hr : Rep A lits) (k : Nat) : Rep (A ++ List.replicate k 0) lits := by
  intro n
  rw [← hr n]
  rcases Nat.lt_or_ge n A.length with h | h
  · rw [List.getElem?_append_left h]
  · rw [List.getElem?_append_right h, List.getElem?_eq_none h]
    rw [List.getElem?_replicate]
    split <;> rfl
theorem rep_set {A lits : List Int} (hr : Rep A lits) {x : Int} (hv : valL lits x = 0) {q : Nat} (hq : x / 2 = q) (hl : q < A.length) : Rep (A.set q (1 + x % 2)) (lits ++ [x]) := by
  obtain ⟨v1, v2⟩ := valL_zero.1 hv
  intro n
  by_cases e : q = n
  · subst e
    rw [List.getElem?_set_self hl]
    by_cases hp : x % 2 = 0
    · have e2 : 2 * (q : Int) = x := by omega
      rw [e2, valL_one.2 (by simp), hp]; rfl
    · have e2 : 2 * (q : Int) = negM x := by unfold negM; rw [if_neg hp]; omega
      rw [e2, valL_two.2 ⟨by simp [v2, negM_ne], by rw [negM_negM]; simp⟩]
      have : x % 2 = 1 := by omega
      rw [this]; rfl
  · rw [List.getElem?_set_ne e, hr n]
    have n1 : (2 * (n : Int)) ≠ x := by omega
    have n2 : negM (2 * (n : Int)) ≠ x := by unfold negM; split <;> omega
    unfold valL
    simp [n1, n2]

/-- A clause's state: how many literals are open so far, and the last of them. -/
def stF (val : Int → Int) : List Int → Nat → Int → Int × Int
  | [], o, l => if o = 0 then (1, -1) else if o = 1 then (2, l) else (3, -1)
  | x :: r, o, l => if val x = 1 then (0, -1) else if val x = 0 then stF val r (o + 1) x else stF val r o l
theorem st_rep {vals : List Int} {val : Int → Int} : ∀ (c : List Int) (o : Nat) (l : Int), (∀ x ∈ c, valM vals x = val x) → stM vals c o l = stF val c o l
  | [], _, _, _ => rfl
  | x :: r, o, l, h => by
    unfold stM stF
    rw [h x List.mem_cons_self, st_rep r (o + 1) x fun y hy => h y (List.mem_cons_of_mem _ hy), st_rep r o l fun y hy => h y (List.mem_cons_of_mem _ hy)]
theorem stF_congr {val val' : Int → Int} : ∀ (c : List Int) (o : Nat) (l : Int), (∀ x ∈ c, val x = val' x) → stF val c o l = stF val' c o l
  | [], _, _, _ => rfl
  | x :: r, o, l, h => by
    unfold stF
    rw [h x List.mem_cons_self, stF_congr r (o + 1) x fun y hy => h y (List.mem_cons_of_mem _ hy), stF_congr r o l fun y hy => h y (List.mem_cons_of_mem _ hy)]
def opens (val : Int → Int) (c : List Int) : List Int := c.filter fun x => decide (val x = 0)
theorem stF_spec (val : Int → Int) : ∀ (c : List Int) (o : Nat) (l : Int), stF val c o l =
    if ∃ x ∈ c, val x = 1 then (0, -1) else if o + (opens val c).length = 0 then (1, -1) else if o + (opens val c).length = 1 then (2, (opens val c).getLastD l) else (3, -1)
  | [], o, l => by
    unfold stF opens
    simp
  | x :: r, o, l => by
    unfold stF
    by_cases h1 : val x = 1
    · rw [if_pos h1, if_pos ⟨x, List.mem_cons_self, h1⟩]
    · rw [if_neg h1]
      have key : (∃ y ∈ x :: r, val y = 1) ↔ ∃ y ∈ r, val y = 1 := by
        constructor
        · rintro ⟨y, hy, hv⟩
          rcases List.mem_cons.1 hy with rfl | hy
          · exact absurd hv h1
          · exact ⟨y, hy, hv⟩
        · rintro ⟨y, hy, hv⟩
          exact ⟨y, List.mem_cons_of_mem _ hy, hv⟩
      simp only [key]
      by_cases h2 : val x = 0
      · have e : opens val (x :: r) = x :: opens val r := by unfold opens; rw [List.filter_cons_of_pos (by simp [h2])]
        rw [if_pos h2, stF_spec val r (o + 1) x, e, List.length_cons]
        have a1 : o + 1 + (opens val r).length = o + ((opens val r).length + 1) := by omega
        rw [a1]
        congr 3
        cases opens val r <;> simp [List.getLastD]
      · have e : opens val (x :: r) = opens val r := by unfold opens; rw [List.filter_cons_of_neg (by simp [h2])]
        rw [if_neg h2, stF_spec val r o l, e]
/-- States, by what they say. -/
def FalseV (val : Int → Int) (c : List Int) : Prop := ∀ x ∈ c, val x ≠ 1 ∧ val x ≠ 0
theorem st_one {val : Int → Int} {c : List Int} : (stF val c 0 (-1)).1 = 1 ↔ FalseV val c := by
  rw [stF_spec]
  constructor
  · intro h x hx
    split at h
    · cases h
    · rename_i hno
      split at h
      · rename_i h0
        refine ⟨fun hv => hno ⟨x, hx, hv⟩, fun hv => ?_⟩
        have : x ∈ opens val c := List.mem_filter.2 ⟨hx, by simp [hv]⟩
        have := List.length_pos_of_mem this
        omega
      · split at h <;> cases h
  · intro h
    rw [if_neg (fun ⟨x, hx, hv⟩ => (h x hx).1 hv), if_pos]
    have : opens val c = [] := List.filter_eq_nil_iff.2 fun x hx => by simp [(h x hx).2]
    rw [this]; rfl
/-- A clause all of whose literals but one are false, that one open. -/
theorem st_two {val : Int → Int} {c : List Int} (h : (stF val c 0 (-1)).1 = 2) : ∃ x, (stF val c 0 (-1)).2 = x ∧ x ∈ c ∧ val x = 0 ∧ ∀ y ∈ c, y = x ∨ (val y ≠ 1 ∧ val y ≠ 0) := by
  rw [stF_spec] at h ⊢
  by_cases h1 : ∃ x ∈ c, val x = 1
  · rw [if_pos h1] at h; cases h
  rw [if_neg h1] at h ⊢
  by_cases h2 : 0 + (opens val c).length = 0
  · rw [if_pos h2] at h; cases h
  rw [if_neg h2] at h ⊢
  by_cases h3 : 0 + (opens val c).length = 1
  · rw [if_pos h3]
    obtain ⟨x, hx⟩ := List.length_eq_one_iff.1 (by omega : (opens val c).length = 1)
    have hm : x ∈ opens val c := by rw [hx]; simp
    obtain ⟨m1, m2⟩ := List.mem_filter.1 hm
    refine ⟨x, by rw [hx]; rfl, m1, by simpa using m2, fun y hy => ?_⟩
    by_cases e : y = x
    · exact .inl e
    · refine .inr ⟨fun hv => h1 ⟨y, hy, hv⟩, fun hv => e ?_⟩
      have : y ∈ opens val c := List.mem_filter.2 ⟨hy, by simp [hv]⟩
      rw [hx] at this
      exact List.mem_singleton.1 this
  · rw [if_neg h3] at h; cases h
theorem st_two_of {val : Int → Int} {c : List Int} {x : Int} (hn : c.Nodup) (hx : x ∈ c) (hv : val x = 0) (ho : ∀ y ∈ c, y = x ∨ (val y ≠ 1 ∧ val y ≠ 0)) : stF val c 0 (-1) = (2, x) := by
  rw [stF_spec]
  have h1 : ¬ ∃ y ∈ c, val y = 1 := by
    rintro ⟨y, hy, hv1⟩
    rcases ho y hy with rfl | h
    · rw [hv] at hv1; cases hv1
    · exact h.1 hv1
  have hm : x ∈ opens val c := List.mem_filter.2 ⟨hx, by simp [hv]⟩
  have he : opens val c = [x] := by
    have hn2 : (opens val c).Nodup := hn.filter _
    have hall : ∀ y ∈ opens val c, y = x := by
      intro y hy
      obtain ⟨m1, m2⟩ := List.mem_filter.1 hy
      rcases ho y m1 with e | e
      · exact e
      · exact absurd (by simpa using m2) e.2
    match hc : opens val c, hn2, hall, hm with
    | [y], _, hall, _ => rw [hall y (by simp)]
    | y :: z :: r, hn2, hall, _ =>
      exfalso
      have e1 := hall y (by simp)
      have e2 := hall z (by simp)
      rw [e1, e2] at hn2
      simp at hn2
  rw [if_neg h1, he]
  simp
end
section
open Go.Lib
def lookF (val : Int → Int) : List (List Int) → Int → Int → Int → Int × Int × Int
  | [], _, u, l => (-1, u, l)
  | c :: r, i, u, l =>
    if (stF val c 0 (-1)).1 = 1 then (i, u, l)
    else if (stF val c 0 (-1)).1 = 2 then (if u = -1 then lookF val r (i + 1) i (stF val c 0 (-1)).2 else lookF val r (i + 1) u l)
    else lookF val r (i + 1) u l
/-- What a search comes to. -/
theorem look_wrong {val : Int → Int} : ∀ (cs : List (List Int)) (i u l : Int), 0 ≤ i → ((lookF val cs i u l).1 ≠ -1 ↔ ∃ c ∈ cs, (stF val c 0 (-1)).1 = 1)
  | [], _, _, _, _ => by unfold lookF; simp
  | c :: r, i, u, l, hi => by
    unfold lookF
    by_cases h1 : (stF val c 0 (-1)).1 = 1
    · rw [if_pos h1]
      exact ⟨fun _ => ⟨c, List.mem_cons_self, h1⟩, fun _ => by show i ≠ -1; omega⟩
    · rw [if_neg h1]
      have key : (∃ d ∈ c :: r, (stF val d 0 (-1)).1 = 1) ↔ ∃ d ∈ r, (stF val d 0 (-1)).1 = 1 := by
        constructor
        · rintro ⟨y, hy, hv⟩
          rcases List.mem_cons.1 hy with rfl | hy
          · exact absurd hv h1
          · exact ⟨y, hy, hv⟩
        · rintro ⟨y, hy, hv⟩
          exact ⟨y, List.mem_cons_of_mem _ hy, hv⟩
      rw [key]
      split
      · split
        · exact look_wrong r _ _ _ (by omega)
        · exact look_wrong r _ _ _ (by omega)
      · exact look_wrong r _ _ _ (by omega)
theorem look_index {val : Int → Int} : ∀ (cs : List (List Int)) (i u l : Int), 0 ≤ i → (lookF val cs i u l).1 = -1 ∨ 0 ≤ (lookF val cs i u l).1
  | [], _, _, _, _ => by unfold lookF; simp
  | c :: r, i, u, l, hi => by
    unfold lookF
    split
    · exact .inr hi
    · split
      · split
        · exact look_index r _ _ _ (by omega)
        · exact look_index r _ _ _ (by omega)
      · exact look_index r _ _ _ (by omega)
theorem look_unit {val : Int → Int} : ∀ (cs : List (List Int)) (i u l : Int), 0 ≤ i → (lookF val cs i u l).1 = -1 →
    if u = -1 then (if (lookF val cs i u l).2.1 = -1 then ∀ c ∈ cs, (stF val c 0 (-1)).1 ≠ 2 else ∃ c ∈ cs, (stF val c 0 (-1)) = (2, (lookF val cs i u l).2.2)) else (lookF val cs i u l).2 = (u, l)
  | [], _, u, l, _, _ => by
    unfold lookF
    split
    · simp
    · rfl
  | c :: r, i, u, l, hi, h => by
    unfold lookF at h ⊢
    by_cases h1 : (stF val c 0 (-1)).1 = 1
    · rw [if_pos h1] at h
      have : i = -1 := h
      omega
    · rw [if_neg h1] at h ⊢
      by_cases h2 : (stF val c 0 (-1)).1 = 2
      · rw [if_pos h2] at h ⊢
        by_cases h3 : u = -1
        · rw [if_pos h3] at h ⊢
          have k := look_unit r (i + 1) i (stF val c 0 (-1)).2 (by omega) h
          rw [if_neg (by omega)] at k
          rw [if_pos h3, k, if_neg (by show ¬ i = -1; omega)]
          exact ⟨c, List.mem_cons_self, Prod.ext h2 rfl⟩
        · rw [if_neg h3] at h ⊢
          have k := look_unit r (i + 1) u l (by omega) h
          rw [if_neg h3] at k ⊢
          exact k
      · rw [if_neg h2] at h ⊢
        have k := look_unit r (i + 1) u l (by omega) h
        by_cases h3 : u = -1
        · rw [if_pos h3] at k ⊢
          by_cases h4 : (lookF val r (i + 1) u l).2.1 = -1
          · rw [if_pos h4] at k ⊢
            intro d hd
            rcases List.mem_cons.1 hd with rfl | hd
            · exact h2
            · exact k d hd
          · rw [if_neg h4] at k ⊢
            obtain ⟨d, hd, e⟩ := k
            exact ⟨d, List.mem_cons_of_mem _ hd, e⟩
        · rw [if_neg h3] at k ⊢
          exact k
/-- The three ways of a search. -/
theorem look_cases (val : Int → Int) (cs : List (List Int)) :
    (0 ≤ (lookF val cs 0 (-1) 0).1 ∧ ∃ c ∈ cs, FalseV val c) ∨
    ((lookF val cs 0 (-1) 0).1 = -1 ∧ (lookF val cs 0 (-1) 0).2.1 = -1 ∧ (∀ c ∈ cs, ¬ FalseV val c) ∧ ∀ c ∈ cs, (stF val c 0 (-1)).1 ≠ 2) ∨
    ((lookF val cs 0 (-1) 0).1 = -1 ∧ (lookF val cs 0 (-1) 0).2.1 ≠ -1 ∧ (∀ c ∈ cs, ¬ FalseV val c) ∧ ∃ c ∈ cs, (lookF val cs 0 (-1) 0).2.2 ∈ c ∧ val (lookF val cs 0 (-1) 0).2.2 = 0 ∧ ∀ y ∈ c, y = (lookF val cs 0 (-1) 0).2.2 ∨ (val y ≠ 1 ∧ val y ≠ 0)) := by
  have hw := look_wrong (val := val) cs 0 (-1) 0 (by omega)
  by_cases h : (lookF val cs 0 (-1) 0).1 = -1
  · right
    have hnone : ∀ c ∈ cs, ¬ FalseV val c := fun c hc hf => (hw.2 ⟨c, hc, st_one.2 hf⟩) h
    have hu := look_unit cs 0 (-1) 0 (by omega) h
    rw [if_pos rfl] at hu
    by_cases h2 : (lookF val cs 0 (-1) 0).2.1 = -1
    · rw [if_pos h2] at hu
      exact .inl ⟨h, h2, hnone, hu⟩
    · rw [if_neg h2] at hu
      obtain ⟨c, hc, e⟩ := hu
      obtain ⟨x, hx, m1, m2, m3⟩ := st_two (val := val) (c := c) (by rw [e])
      rw [e] at hx
      have hx : (lookF val cs 0 (-1) 0).2.2 = x := hx
      rw [hx]
      exact .inr ⟨h, h2, hnone, c, hc, m1, m2, m3⟩
  · left
    obtain ⟨c, hc, e⟩ := hw.1 h
    rcases look_index (val := val) cs 0 (-1) 0 (by omega) with h3 | h3
    · exact absurd h3 h
    · exact ⟨h3, c, hc, st_one.1 e⟩

/-- How many of the clauses' literals are open. -/
def openN (cs : List (List Int)) (lits : List Int) : Nat := (opens (valL lits) cs.flatten).length
theorem filter_lt {p q : Int → Bool} : ∀ (l : List Int), (∀ x ∈ l, q x = true → p x = true) → (∃ x ∈ l, p x = true ∧ q x = false) → (l.filter q).length < (l.filter p).length
  | [], _, ⟨x, hx, _⟩ => by cases hx
  | y :: r, h, hex => by
    have hle : (r.filter q).length ≤ (r.filter p).length := by
      have : ∀ (l : List Int), (∀ x ∈ l, q x = true → p x = true) → (l.filter q).length ≤ (l.filter p).length := by
        intro l
        induction l with
        | nil => intro _; exact Nat.le_refl _
        | cons z t ih =>
          intro hz
          have := ih fun x hx => hz x (List.mem_cons_of_mem _ hx)
          have hz0 := hz z List.mem_cons_self
          rw [List.filter_cons, List.filter_cons]
          cases hq : q z with
          | true => rw [hz0 hq]; simpa using this
          | false => cases p z <;> simp <;> omega
      exact this r fun x hx => h x (List.mem_cons_of_mem _ hx)
    have hy := h y List.mem_cons_self
    rw [List.filter_cons, List.filter_cons]
    obtain ⟨x, hx, h1, h2⟩ := hex
    rcases List.mem_cons.1 hx with rfl | hx
    · rw [h1, h2]; simp; omega
    · have := filter_lt r (fun x hx => h x (List.mem_cons_of_mem _ hx)) ⟨x, hx, h1, h2⟩
      cases hq : q y with
      | true => rw [hy hq]; simpa using this
      | false => cases p y <;> simp <;> omega
theorem openN_push {cs : List (List Int)} {lits : List Int} {x : Int} {c : List Int} (hc : c ∈ cs) (hx : x ∈ c) (hv : valL lits x = 0) : openN cs (lits ++ [x]) < openN cs lits := by
  unfold openN opens
  refine filter_lt _ (fun y _ h => ?_) ⟨x, List.mem_flatten.2 ⟨c, hc, hx⟩, by simp [hv], ?_⟩
  · have h : valL (lits ++ [x]) y = 0 := by simpa using h
    obtain ⟨a, b⟩ := valL_zero.1 h
    have : valL lits y = 0 := valL_zero.2 ⟨fun hy => a (List.mem_append_left _ hy), fun hy => b (List.mem_append_left _ hy)⟩
    simp [this]
  · have : valL (lits ++ [x]) x = 1 := valL_one.2 (by simp)
    simp [this]
/-- Propagating. -/
def runL (cs : List (List Int)) (lits : List Int) : List Int × Int :=
  if 0 ≤ (lookF (valL lits) cs 0 (-1) 0).1 then (lits, (lookF (valL lits) cs 0 (-1) 0).1)
  else if (lookF (valL lits) cs 0 (-1) 0).2.1 = -1 then (lits, -1)
  else runL cs (lits ++ [(lookF (valL lits) cs 0 (-1) 0).2.2])
termination_by openN cs lits
decreasing_by
  rename_i h1 h2
  rcases look_cases (valL lits) cs with h | h | ⟨-, -, -, c, hc, hx, hv, -⟩
  · exact absurd h.1 h1
  · exact absurd h.2.1 h2
  · exact openN_push hc hx hv
/-- One that holds ahead, and is kept by each put, holds behind; and what the end is like. -/
theorem runL_ind {cs : List (List Int)} {P : List Int → Prop} {Q : List Int × Int → Prop}
    (step : ∀ lits x c, P lits → c ∈ cs → x ∈ c → valL lits x = 0 → (∀ y ∈ c, y = x ∨ (valL lits y ≠ 1 ∧ valL lits y ≠ 0)) → (∀ c ∈ cs, ¬ FalseV (valL lits) c) → P (lits ++ [x]))
    (conf : ∀ lits k c, P lits → 0 ≤ k → c ∈ cs → FalseV (valL lits) c → Q (lits, k))
    (none : ∀ lits, P lits → (∀ c ∈ cs, ¬ FalseV (valL lits) c) → (∀ c ∈ cs, (stF (valL lits) c 0 (-1)).1 ≠ 2) → Q (lits, -1)) :
    ∀ (n : Nat) (lits : List Int), openN cs lits ≤ n → P lits → Q (runL cs lits) := by
  intro n
  induction n with
  | zero =>
    intro lits hn hp
    rw [runL]
    rcases look_cases (valL lits) cs with ⟨h0, c, hc, hf⟩ | ⟨h1, h2, h3, h4⟩ | ⟨-, -, -, c, hc, hx, hv, -⟩
    · rw [if_pos h0]; exact conf lits _ c hp h0 hc hf
    · rw [if_neg (by omega), if_pos h2]; exact none lits hp h3 h4
    · exfalso
      have := openN_push hc hx hv
      omega
  | succ n ih =>
    intro lits hn hp
    rw [runL]
    rcases look_cases (valL lits) cs with ⟨h0, c, hc, hf⟩ | ⟨h1, h2, h3, h4⟩ | ⟨h1, h2, h3, c, hc, hx, hv, ho⟩
    · rw [if_pos h0]; exact conf lits _ c hp h0 hc hf
    · rw [if_neg (by omega), if_pos h2]; exact none lits hp h3 h4
    · rw [if_neg (by omega), if_neg h2]
      have := openN_push hc hx hv
      exact ih _ (by omega) (step lits _ c hp hc hx hv ho h3)

/-- What is given, put. -/
def givenM : List Int → List Int → List Int × Bool
  | [], lits => (lits, true)
  | x :: r, lits => if wideM x = true then givenM r lits else if valL lits x = 1 then givenM r lits else if valL lits x = 2 then (lits, false) else givenM r (lits ++ [x])
def runM (cs : List (List Int)) (given : List Int) : List Int × Int := if (givenM given []).2 = true then runL (cs.map plainM) (givenM given []).1 else ((givenM given []).1, -2)

theorem given_ind {P : List Int → Prop} : ∀ (g lits : List Int), P lits → (∀ lits x, P lits → x ∈ g → wideM x = false → valL lits x = 0 → P (lits ++ [x])) → P (givenM g lits).1
  | [], _, h, _ => h
  | x :: r, lits, h, st => by
    unfold givenM
    have st' := fun lits y hp hy => st lits y hp (List.mem_cons_of_mem _ hy)
    by_cases hw : wideM x = true
    · rw [if_pos hw]; exact given_ind r lits h st'
    rw [if_neg hw]
    by_cases h1 : valL lits x = 1
    · rw [if_pos h1]; exact given_ind r lits h st'
    rw [if_neg h1]
    by_cases h2 : valL lits x = 2
    · rw [if_pos h2]; exact h
    rw [if_neg h2]
    exact given_ind r _ (st lits x h List.mem_cons_self (by simpa using hw) (by rcases valL_cases lits x with e | e | e <;> simp_all)) st'
theorem given_all : ∀ (g lits : List Int), (givenM g lits).2 = true → (∀ x ∈ lits, x ∈ (givenM g lits).1) ∧ ∀ x ∈ g, wideM x = false → x ∈ (givenM g lits).1
  | [], _, _ => ⟨fun _ h => h, fun x hx => by cases hx⟩
  | x :: r, lits, h => by
    unfold givenM at h ⊢
    by_cases hw : wideM x = true
    · rw [if_pos hw] at h ⊢
      obtain ⟨a, b⟩ := given_all r lits h
      refine ⟨a, fun y hy hyw => ?_⟩
      rcases List.mem_cons.1 hy with rfl | hy
      · rw [hw] at hyw; cases hyw
      · exact b y hy hyw
    rw [if_neg hw] at h ⊢
    by_cases h1 : valL lits x = 1
    · rw [if_pos h1] at h ⊢
      obtain ⟨a, b⟩ := given_all r lits h
      refine ⟨a, fun y hy hyw => ?_⟩
      rcases List.mem_cons.1 hy with rfl | hy
      · exact a _ (valL_one.1 h1)
      · exact b y hy hyw
    rw [if_neg h1] at h ⊢
    by_cases h2 : valL lits x = 2
    · rw [if_pos h2] at h; cases h
    rw [if_neg h2] at h ⊢
    obtain ⟨a, b⟩ := given_all r _ h
    refine ⟨fun y hy => a y (List.mem_append_left _ hy), fun y hy hyw => ?_⟩
    rcases List.mem_cons.1 hy with rfl | hy
    · exact a _ (by simp)
    · exact b y hy hyw
theorem given_no : ∀ (g lits : List Int), (givenM g lits).2 = false → ∃ x ∈ g, wideM x = false ∧ valL (givenM g lits).1 x = 2
  | [], _, h => by cases h
  | x :: r, lits, h => by
    unfold givenM at h ⊢
    have up : (∃ y ∈ r, wideM y = false ∧ valL (givenM r lits).1 y = 2) → ∃ y ∈ x :: r, wideM y = false ∧ valL (givenM r lits).1 y = 2 := fun ⟨y, hy, e⟩ => ⟨y, List.mem_cons_of_mem _ hy, e⟩
    by_cases hw : wideM x = true
    · rw [if_pos hw] at h ⊢; exact up (given_no r lits h)
    rw [if_neg hw] at h ⊢
    by_cases h1 : valL lits x = 1
    · rw [if_pos h1] at h ⊢; exact up (given_no r lits h)
    rw [if_neg h1] at h ⊢
    by_cases h2 : valL lits x = 2
    · rw [if_pos h2]; exact ⟨x, List.mem_cons_self, by simpa using hw, h2⟩
    rw [if_neg h2] at h ⊢
    obtain ⟨y, hy, e⟩ := given_no r _ h
    exact ⟨y, List.mem_cons_of_mem _ hy, e⟩
theorem plain_rng {c : List Int} {x : Int} (hx : x ∈ plainM c) : 0 ≤ x ∧ x ≤ 1048576 := by
  obtain ⟨_, h⟩ := List.mem_filter.1 hx
  exact (wide_iff x).1 (by simpa using h)
theorem given_ok (g : List Int) : LitsOk (givenM g []).1 := given_ind (P := LitsOk) g [] LitsOk.nil fun _ x hp _ hw hv => hp.push ((wide_iff x).1 hw) hv
theorem run_lits (cs : List (List Int)) (given : List Int) : LitsOk (runM cs given).1 := by
  unfold runM
  split
  · refine runL_ind (P := LitsOk) (Q := fun r => LitsOk r.1) (fun lits x c hp hc hx hv _ _ => ?_) (fun _ _ _ hp _ _ _ => hp) (fun _ hp _ _ => hp) _ _ (Nat.le_refl _) (given_ok given)
    obtain ⟨d, _, rfl⟩ := List.mem_map.1 hc
    exact hp.push (plain_rng hx) hv
  · exact given_ok given

/-- An assignment that clauses hold in no unit of, nor are false in. -/
def Closed (cs : List (List Int)) (T : List Int) : Prop := ∀ c ∈ cs, ¬ FalseV (valL T) c ∧ (stF (valL T) c 0 (-1)).1 ≠ 2
theorem run_none {cs : List (List Int)} {given : List Int} (h : (runM cs given).2 = -1) : (∀ x ∈ given, wideM x = false → x ∈ (runM cs given).1) ∧ Closed (cs.map plainM) (runM cs given).1 := by
  unfold runM at h ⊢
  by_cases hg : (givenM given []).2 = true
  · rw [if_pos hg] at h ⊢
    have := runL_ind (cs := cs.map plainM) (P := fun l => ∀ x ∈ (givenM given []).1, x ∈ l) (Q := fun r => r.2 = -1 → (∀ x ∈ (givenM given []).1, x ∈ r.1) ∧ Closed (cs.map plainM) r.1)
      (fun lits x c hp _ _ _ _ _ y hy => List.mem_append_left _ (hp y hy)) (fun lits k c _ h0 _ _ e => by simp only at e; omega) (fun lits hp h1 h2 _ => ⟨hp, fun c hc => ⟨h1 c hc, h2 c hc⟩⟩) _ (givenM given []).1 (Nat.le_refl _) (fun x hx => hx) h
    exact ⟨fun x hx hw => this.1 x ((given_all given [] hg).2 x hx hw), this.2⟩
  · rw [if_neg hg] at h; cases h
/-- What is put is in each closed assignment. -/
theorem run_least {cs : List (List Int)} {given T : List Int} (hT : LitsOk T) (hg : ∀ x ∈ given, wideM x = false → x ∈ T) (hn : ∀ c ∈ cs.map plainM, c.Nodup) (hc : Closed (cs.map plainM) T) : (runM cs given).2 = -1 ∧ ∀ x ∈ (runM cs given).1, x ∈ T := by
  have hgl : ∀ x ∈ (givenM given []).1, x ∈ T := given_ind (P := fun l => ∀ x ∈ l, x ∈ T) given [] (fun x hx => by cases hx) fun lits x hp hx hw _ y hy => by
    rcases List.mem_append.1 hy with hy | hy
    · exact hp y hy
    · rw [List.mem_singleton.1 hy]; exact hg x hx hw
  have sub : ∀ {lits : List Int}, (∀ x ∈ lits, x ∈ T) → ∀ y, valL lits y ≠ 1 → valL lits y ≠ 0 → valL T y ≠ 1 ∧ valL T y ≠ 0 := by
    intro lits hs y h1 h0
    rcases valL_cases lits y with e | e | e
    · exact absurd e h0
    · exact absurd e h1
    · obtain ⟨_, e2⟩ := valL_two.1 e
      have e3 := hs _ e2
      have e4 : y ∉ T := fun h => by have := hT.not_both h; exact this e3
      rw [valL_two.2 ⟨e4, e3⟩]
      exact ⟨by decide, by decide⟩
  unfold runM
  by_cases hgb : (givenM given []).2 = true
  · rw [if_pos hgb]
    refine runL_ind (cs := cs.map plainM) (P := fun l => ∀ x ∈ l, x ∈ T) (Q := fun r => r.2 = -1 ∧ ∀ x ∈ r.1, x ∈ T) (fun lits x c hp hcm hx hv ho hnf => ?_) (fun lits k c hp h0 hcm hf => ?_) (fun lits hp _ _ => ⟨rfl, hp⟩) _ _ (Nat.le_refl _) hgl
    · intro y hy
      rcases List.mem_append.1 hy with hy | hy
      · exact hp y hy
      · rw [List.mem_singleton.1 hy]
        have hrest : ∀ z ∈ c, z = x ∨ (valL T z ≠ 1 ∧ valL T z ≠ 0) := fun z hz => (ho z hz).imp id fun ⟨a, b⟩ => sub hp z a b
        rcases valL_cases T x with e | e | e
        · exact absurd (by rw [st_two_of (hn c hcm) hx e hrest]) (hc c hcm).2
        · exact valL_one.1 e
        · refine absurd (fun z hz => ?_) (hc c hcm).1
          rcases hrest z hz with rfl | h
          · rw [e]; exact ⟨by decide, by decide⟩
          · exact h
    · exact absurd (fun z hz => sub hp z (hf z hz).1 (hf z hz).2) (hc c hcm).1
  · exfalso
    obtain ⟨x, hx, hw, hv⟩ := given_no given [] (by simpa using hgb)
    obtain ⟨_, h2⟩ := valL_two.1 hv
    exact hT.not_both (hg x hx hw) (hgl _ h2)
theorem ord_nodup {l : List Int} (h : Ord l) : l.Nodup := h.imp fun h => Int.ne_of_lt h
theorem plain_nodup (c : List Int) : (plainM c).Nodup := (ord_nodup (made_ord _)).filter _
theorem plains_nodup (cs : List (List Int)) : ∀ c ∈ cs.map plainM, c.Nodup := fun c hc => by
  obtain ⟨d, _, rfl⟩ := List.mem_map.1 hc
  exact plain_nodup d
end
section
open Go.RowKit Go.Lib Go.Sort
theorem delete_p {f : Nat} {p : Int → Bool} (hf : ∀ W x, FnGives Tryz.prog f #[] #[.int .i64 x] (.bool (p x)) W) (eg : ∀ args w, (callFunc f args).run Tryz.prog w = .ok (.enter f args) w)
    {w : World} {base : Nat} {v : Value} {zs : List Int} (ho : w.ownsRow base 3 1 v zs.length (zs.map (Value.int .i64))) (hsz : zs.length ≤ 9223372036854775807) (hbs : base ≤ w.heap.size) :
    Calls Tryz.prog 72 #[v, .func (.func f) #[] #[]] w fun e w' => ∃ v', e = .returned v' ∧ w'.ownsRow base 3 1 v' (zs.filter fun x => !p x).length ((zs.filter fun x => !p x).map (Value.int .i64)) ∧ Below base w w' := by
  rcases own_cases ho rfl with ⟨rfl, h0⟩ | ⟨g, cap, rfl, hown, hb, _⟩
  · refine (delete_nil _ _).mono ?_
    rintro e w' ⟨rfl, rfl⟩
    rw [h0]
    exact ⟨_, rfl, World.ownsRow_nil _ _ _ _, Below.refl _ _⟩
  · obtain ⟨cur, hb2, hh, hc, hM, hs, ht⟩ := hown.block
    have h0 := Tryz.slices_DeleteFunc_int p f #[] eg g 0 cap zs.toArray w (fun W x _ => hf W x) (fun _ _ _ x _ => hf _ x) (holds_of_blockI hh ht) (by simpa using hsz) (by simpa using hc)
    simp only [List.size_toArray] at h0
    refine h0.mono ?_
    rintro e w' ⟨rfl, k, rfl⟩
    have hl : (zs.filter fun x => !p x).length ≤ zs.length := List.length_filter_le _ _
    have h1 := ownsRow_sortedI (n := k) (os := #[]) (ss := zs) (ts := (zs.filter fun x => !p x) ++ List.replicate (zs.length - (zs.filter fun x => !p x).length) 0) (by rw [List.length_append, List.length_replicate]; omega) hb2 hh hc hM hs
    have h2 := grownBy_sortedI (w := w) (g := g) (n := k) (os := #[]) ((zs.filter fun x => !p x) ++ List.replicate (zs.length - (zs.filter fun x => !p x).length) 0).toArray
    rw [grow_empty] at h1 h2
    exact ⟨_, rfl, OwnI.cut _ h1 hl, below_grow (Below.refl _ _) h2 hbs hb⟩

def encR (r : Option Addr × Nat × List Int) : Value := .slice r.1 r.2.2.length r.2.1
theorem encR_one (r : Option Addr × Nat × List Int) : (encR r).oneCell' = true := rfl
theorem row_set {k : IntKind} {w : World} {A : Option Addr} {zs : List Int} (h : Row k w A zs) {g i : Nat} (u : Value) (hne : ∀ a, A = some a → a.block ≠ g) : Row k (w.setCell ⟨g, i, none⟩ u) A zs := by
  refine ⟨h.len, h.at_.imp id fun ⟨b, off, h1, h2, h3⟩ => ⟨b, off, h1, by simpa [World.setCell] using h2, fun j hj => ?_⟩⟩
  rw [World.cell?_of_block (w := w) (Below.heap_setCell w ⟨g, i, none⟩ u b (hne _ h1))]
  exact h3 j hj
/-- Rows made so far, the others nil. -/
def rowCells (rows : List (Option Addr × Nat × List Int)) (k : Nat) : Array Value := (rows.map encR ++ List.replicate k (Value.slice none 0 0)).toArray
theorem rowCells_set (rows : List (Option Addr × Nat × List Int)) (k : Nat) (r : Option Addr × Nat × List Int) : (rowCells rows (k + 1)).setIfInBounds rows.length (encR r) = rowCells (rows ++ [r]) k := by
  unfold rowCells
  rw [List.setIfInBounds_toArray, List.set_append_right _ _ (by simp), List.length_map, Nat.sub_self, List.replicate_succ, List.set_cons_zero]
  simp
theorem rowCells_next (rows : List (Option Addr × Nat × List Int)) (k : Nat) : (rowCells rows (k + 1))[rows.length]? = some (Value.slice none 0 0) := by
  unfold rowCells
  rw [List.getElem?_toArray, List.getElem?_append_right (by simp)]
  simp
theorem rowCells_old (rows : List (Option Addr × Nat × List Int)) (k : Nat) {j : Nat} (h : j < rows.length) : (rowCells rows k)[j]? = some (encR rows[j]) := by
  unfold rowCells
  rw [List.getElem?_toArray, List.getElem?_append_left (by simpa using h)]
  simp [h]
structure Made (w wr : World) (rows R : List (Option Addr × Nat × List Int)) (i : Nat) : Prop where
  len : R.length = i
  blk : Blk wr w.heap.size 23 (rowCells R (rows.length - i))
  is : rowsOf R = (rowsOf (rows.take i)).map plainM
  each : ∀ r ∈ R, Row .i64 wr r.1 r.2.2 ∧ (r.1 = none → r.2.1 = 0) ∧ ∀ a, r.1 = some a → w.heap.size < a.block
  bel : Below w.heap.size w wr
theorem Made.push {w wr w2 : World} {rows R : List (Option Addr × Nat × List Int)} {i : Nat} (h : Made w wr rows R i) (hi : i < rows.length) {B : Option Addr} {d : Nat} {zs : List Int} (hb : Below wr.heap.size wr w2) (hr : Row .i64 w2 B zs) (hn : B = none → d = 0) (ho : ∀ a, B = some a → wr.heap.size ≤ a.block)
    (ht : (rowsOf (rows.take (i + 1))).map plainM = (rowsOf (rows.take i)).map plainM ++ [zs]) : Made w (w2.setCell ⟨w.heap.size, i, none⟩ (.slice B zs.length d)) rows (R ++ [(B, d, zs)]) (i + 1) := by
  have hg := h.blk.lt
  refine ⟨by rw [List.length_append, h.len]; rfl, ?_, by rw [ht, ← h.is]; simp [rowsOf], fun r hr' => ?_, (h.bel.trans (hb.mono h.bel.size)).setCell (Nat.le_refl _) _⟩
  · have h1 := (h.blk.below hb hg).set_ i (encR (B, d, zs))
    have hk : rows.length - i = (rows.length - (i + 1)) + 1 := by omega
    have e1 : rowCells R (rows.length - i) = rowCells R ((rows.length - (i + 1)) + 1) := by rw [← hk]
    have e2 : (rowCells R ((rows.length - (i + 1)) + 1)).setIfInBounds i (encR (B, d, zs)) = rowCells (R ++ [(B, d, zs)]) (rows.length - (i + 1)) := by
      have := rowCells_set R (rows.length - (i + 1)) (B, d, zs)
      rw [h.len] at this
      exact this
    rw [e1, e2] at h1
    exact h1
  · rcases List.mem_append.1 hr' with hr' | hr'
    · obtain ⟨r1, r2, r3⟩ := h.each r hr'
      exact ⟨row_set (r1.below hb) _ fun a ha => by have := r3 a ha; omega, r2, r3⟩
    · rw [List.mem_singleton.1 hr']
      exact ⟨row_set hr _ fun a ha => by have := ho a ha; omega, hn, fun a ha => by have := ho a ha; omega⟩
theorem Made.grid {w wr : World} {rows R : List (Option Addr × Nat × List Int)} (h : Made w wr rows R rows.length) (hl : rows.length ≤ 1000000) : Grid wr (some ⟨w.heap.size, 0, none⟩) R := by
  refine ⟨by rw [h.len]; exact hl, .inr ⟨w.heap.size, 0, rfl, h.blk.lt, fun k hk => ?_⟩⟩
  obtain ⟨r1, r2, _⟩ := h.each R[k] (List.getElem_mem hk)
  refine ⟨?_, r1, r2⟩
  rw [Nat.zero_add, h.blk.cell k, rowCells_old R _ hk]
  rfl
theorem own_row2 {w : World} {base n : Nat} {v : Value} {zs : List Int} (h : w.ownsRow base 3 1 v n (zs.map (Value.int .i64))) (hn : n = zs.length) (hl : zs.length ≤ 1000000) :
    ∃ B d, v = .slice B zs.length d ∧ Row .i64 w B zs ∧ (B = none → d = 0) ∧ ∀ a, B = some a → base ≤ a.block := by
  obtain ⟨B, d, rfl, h1, h2⟩ := own_row h hn hl
  refine ⟨B, d, rfl, h1, h2, fun a ha => ?_⟩
  subst ha
  exact (h.lt a.block rfl).1
theorem slice_info : (Tryz.prog.info? 23).map (fun i => (i.zero, i.size, i.bytes)) = some (some (.slice none 0 0), 1, 24) := by kernel_rfl
theorem makeRows (n : Nat) (hn : n ≤ 1000000) (w : World) : (Instr.makeSlice 22 (.int .i64 n) (.int .i64 n)).run Tryz.prog w = .ok (.slice (some ⟨w.heap.size, 0, none⟩) n n) (w.alloc (.cells (rowCells [] n) 23)) := by
  obtain ⟨i0, hi, hz0, hz1, hz2⟩ := info_parts slice_info
  refine Eq.trans (run_make_rowN (P := Tryz.prog) 22 23 i0 (.slice none 0 0) Tryz.underlying22 hi hz0 .i64 .i64 n n (Nat.le_refl _) (by rw [hz2]; omega) (by omega) w) ?_
  rw [hz1]
  have e : madeCells (Value.slice none 0 0).cells (n * 1) = rowCells [] n := by
    show madeCells #[Value.slice none 0 0] (n * 1) = _
    rw [made_one, Nat.mul_one]
    rfl
  rw [e]

theorem made_small {zs : List Int} (h : zs.length ≤ 1000000) : (makeM zs).length ≤ 9223372036854775807 := by
  have := makeM_len zs
  omega
theorem plain_small {zs : List Int} (h : zs.length ≤ 1000000) : ((makeM zs).filter fun x => !wideM x).length ≤ 1000000 := by
  have := makeM_len zs
  have := List.length_filter_le (fun x => !wideM x) (makeM zs)
  omega
end
end Go.Proofs.YtmbekchnfbmhbaaGreat
