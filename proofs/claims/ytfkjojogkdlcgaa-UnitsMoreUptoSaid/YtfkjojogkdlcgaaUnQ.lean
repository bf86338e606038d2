/- Propagating: the search for units, the runs, and what they come to. -/
import Derived.Test.YtfkjojogkdlcgaaUnP
namespace Go.Proofs.Ytfkjojogkdlcgaa
open Go.Lib

def lookF (val : Int → Int) : List (List Int) → Int → Int → Int → Int × Int × Int
  | [], _, u, l => (-1, u, l)
  | c :: r, i, u, l =>
    if (stF val c 0 (-1)).1 = 1 then (i, u, l)
    else if (stF val c 0 (-1)).1 = 2 then (if u = -1 then lookF val r (i + 1) i (stF val c 0 (-1)).2 else lookF val r (i + 1) u l)
    else lookF val r (i + 1) u l
/-- What a search comes to. -/
theorem look_wrong {val : Int → Int} : ∀ (cs : List (List Int)) (i u l : Int), 0 ≤ i → ((lookF val cs i u l).1 ≠ -1 ↔ ∃ c ∈ cs, (stF val c 0 (-1)).1 = 1)
  | [], _, _, _, _ => by unfold lookF; simp
  | c :: r, i, u, l, hi => by
    unfold lookF
    by_cases h1 : (stF val c 0 (-1)).1 = 1
    · rw [if_pos h1]
      exact ⟨fun _ => ⟨c, List.mem_cons_self, h1⟩, fun _ => by show i ≠ -1; omega⟩
    · rw [if_neg h1]
      have key : (∃ d ∈ c :: r, (stF val d 0 (-1)).1 = 1) ↔ ∃ d ∈ r, (stF val d 0 (-1)).1 = 1 := by
        constructor
        · rintro ⟨y, hy, hv⟩
          rcases List.mem_cons.1 hy with rfl | hy
          · exact absurd hv h1
          · exact ⟨y, hy, hv⟩
        · rintro ⟨y, hy, hv⟩
          exact ⟨y, List.mem_cons_of_mem _ hy, hv⟩
      rw [key]
      split
      · split
        · exact look_wrong r _ _ _ (by omega)
        · exact look_wrong r _ _ _ (by omega)
      · exact look_wrong r _ _ _ (by omega)
theorem look_index {val : Int → Int} : ∀ (cs : List (List Int)) (i u l : Int), 0 ≤ i → (lookF val cs i u l).1 = -1 ∨ 0 ≤ (lookF val cs i u l).1
  | [], _, _, _, _ => by unfold lookF; simp
  | c :: r, i, u, l, hi => by
    unfold lookF
    split
    · exact .inr hi
    · split
      · split
        · exact look_index r _ _ _ (by omega)
        · exact look_index r _ _ _ (by omega)
      · exact look_index r _ _ _ (by omega)
theorem look_unit {val : Int → Int} : ∀ (cs : List (List Int)) (i u l : Int), 0 ≤ i → (lookF val cs i u l).1 = -1 →
    if u = -1 then (if (lookF val cs i u l).2.1 = -1 then ∀ c ∈ cs, (stF val c 0 (-1)).1 ≠ 2 else ∃ c ∈ cs, (stF val c 0 (-1)) = (2, (lookF val cs i u l).2.2)) else (lookF val cs i u l).2 = (u, l)
  | [], _, u, l, _, _ => by
    unfold lookF
    split
    · simp
    · rfl
  | c :: r, i, u, l, hi, h => by
    unfold lookF at h ⊢
    by_cases h1 : (stF val c 0 (-1)).1 = 1
    · rw [if_pos h1] at h
      have : i = -1 := h
      omega
    · rw [if_neg h1] at h ⊢
      by_cases h2 : (stF val c 0 (-1)).1 = 2
      · rw [if_pos h2] at h ⊢
        by_cases h3 : u = -1
        · rw [if_pos h3] at h ⊢
          have k := look_unit r (i + 1) i (stF val c 0 (-1)).2 (by omega) h
          rw [if_neg (by omega)] at k
          rw [if_pos h3, k, if_neg (by show ¬ i = -1; omega)]
          exact ⟨c, List.mem_cons_self, Prod.ext h2 rfl⟩
        · rw [if_neg h3] at h ⊢
          have k := look_unit r (i + 1) u l (by omega) h
          rw [if_neg h3] at k ⊢
          exact k
      · rw [if_neg h2] at h ⊢
        have k := look_unit r (i + 1) u l (by omega) h
        by_cases h3 : u = -1
        · rw [if_pos h3] at k ⊢
          by_cases h4 : (lookF val r (i + 1) u l).2.1 = -1
          · rw [if_pos h4] at k ⊢
            intro d hd
            rcases List.mem_cons.1 hd with rfl | hd
            · exact h2
            · exact k d hd
          · rw [if_neg h4] at k ⊢
            obtain ⟨d, hd, e⟩ := k
            exact ⟨d, List.mem_cons_of_mem _ hd, e⟩
        · rw [if_neg h3] at k ⊢
          exact k
/-- The three ways of a search. -/
theorem look_cases (val : Int → Int) (cs : List (List Int)) :
    (0 ≤ (lookF val cs 0 (-1) 0).1 ∧ ∃ c ∈ cs, FalseC val c) ∨
    ((lookF val cs 0 (-1) 0).1 = -1 ∧ (lookF val cs 0 (-1) 0).2.1 = -1 ∧ (∀ c ∈ cs, ¬ FalseC val c) ∧ ∀ c ∈ cs, (stF val c 0 (-1)).1 ≠ 2) ∨
    ((lookF val cs 0 (-1) 0).1 = -1 ∧ (lookF val cs 0 (-1) 0).2.1 ≠ -1 ∧ (∀ c ∈ cs, ¬ FalseC val c) ∧ ∃ c ∈ cs, (lookF val cs 0 (-1) 0).2.2 ∈ c ∧ val (lookF val cs 0 (-1) 0).2.2 = 0 ∧ ∀ y ∈ c, y = (lookF val cs 0 (-1) 0).2.2 ∨ (val y ≠ 1 ∧ val y ≠ 0)) := by
  have hw := look_wrong (val := val) cs 0 (-1) 0 (by omega)
  by_cases h : (lookF val cs 0 (-1) 0).1 = -1
  · right
    have hnone : ∀ c ∈ cs, ¬ FalseC val c := fun c hc hf => (hw.2 ⟨c, hc, st_one.2 hf⟩) h
    have hu := look_unit cs 0 (-1) 0 (by omega) h
    rw [if_pos rfl] at hu
    by_cases h2 : (lookF val cs 0 (-1) 0).2.1 = -1
    · rw [if_pos h2] at hu
      exact .inl ⟨h, h2, hnone, hu⟩
    · rw [if_neg h2] at hu
      obtain ⟨c, hc, e⟩ := hu
      obtain ⟨x, hx, m1, m2, m3⟩ := st_two (val := val) (c := c) (by rw [e])
      rw [e] at hx
      have hx : (lookF val cs 0 (-1) 0).2.2 = x := hx
      rw [hx]
      exact .inr ⟨h, h2, hnone, c, hc, m1, m2, m3⟩
  · left
    obtain ⟨c, hc, e⟩ := hw.1 h
    rcases look_index (val := val) cs 0 (-1) 0 (by omega) with h3 | h3
    · exact absurd h3 h
    · exact ⟨h3, c, hc, st_one.1 e⟩

/-- How many of the clauses' literals are open. -/
def openN (cs : List (List Int)) (lits : List Int) : Nat := (opens (valL lits) cs.flatten).length
theorem filter_lt {p q : Int → Bool} : ∀ (l : List Int), (∀ x ∈ l, q x = true → p x = true) → (∃ x ∈ l, p x = true ∧ q x = false) → (l.filter q).length < (l.filter p).length
  | [], _, ⟨x, hx, _⟩ => by cases hx
  | y :: r, h, hex => by
    have hle : (r.filter q).length ≤ (r.filter p).length := by
      have : ∀ (l : List Int), (∀ x ∈ l, q x = true → p x = true) → (l.filter q).length ≤ (l.filter p).length := by
        intro l
        induction l with
        | nil => intro _; exact Nat.le_refl _
        | cons z t ih =>
          intro hz
          have := ih fun x hx => hz x (List.mem_cons_of_mem _ hx)
          have hz0 := hz z List.mem_cons_self
          rw [List.filter_cons, List.filter_cons]
          cases hq : q z with
          | true => rw [hz0 hq]; simpa using this
          | false => cases p z <;> simp <;> omega
      exact this r fun x hx => h x (List.mem_cons_of_mem _ hx)
    have hy := h y List.mem_cons_self
    rw [List.filter_cons, List.filter_cons]
    obtain ⟨x, hx, h1, h2⟩ := hex
    rcases List.mem_cons.1 hx with rfl | hx
    · rw [h1, h2]; simp; omega
    · have := filter_lt r (fun x hx => h x (List.mem_cons_of_mem _ hx)) ⟨x, hx, h1, h2⟩
      cases hq : q y with
      | true => rw [hy hq]; simpa using this
      | false => cases p y <;> simp <;> omega
theorem openN_push {cs : List (List Int)} {lits : List Int} {x : Int} {c : List Int} (hc : c ∈ cs) (hx : x ∈ c) (hv : valL lits x = 0) : openN cs (lits ++ [x]) < openN cs lits := by
  unfold openN opens
  refine filter_lt _ (fun y _ h => ?_) ⟨x, List.mem_flatten.2 ⟨c, hc, hx⟩, by simp [hv], ?_⟩
  · have h : valL (lits ++ [x]) y = 0 := by simpa using h
    obtain ⟨a, b⟩ := valL_zero.1 h
    have : valL lits y = 0 := valL_zero.2 ⟨fun hy => a (List.mem_append_left _ hy), fun hy => b (List.mem_append_left _ hy)⟩
    simp [this]
  · have : valL (lits ++ [x]) x = 1 := valL_one.2 (by simp)
    simp [this]
/-- Propagating. -/
def runL (cs : List (List Int)) (lits : List Int) : List Int × Int :=
  if 0 ≤ (lookF (valL lits) cs 0 (-1) 0).1 then (lits, (lookF (valL lits) cs 0 (-1) 0).1)
  else if (lookF (valL lits) cs 0 (-1) 0).2.1 = -1 then (lits, -1)
  else runL cs (lits ++ [(lookF (valL lits) cs 0 (-1) 0).2.2])
termination_by openN cs lits
decreasing_by
  rename_i h1 h2
  rcases look_cases (valL lits) cs with h | h | ⟨-, -, -, c, hc, hx, hv, -⟩
  · exact absurd h.1 h1
  · exact absurd h.2.1 h2
  · exact openN_push hc hx hv
/-- One that holds ahead, and is kept by each put, holds behind; and what the end is like. -/
theorem runL_ind {cs : List (List Int)} {P : List Int → Prop} {Q : List Int × Int → Prop}
    (step : ∀ lits x c, P lits → c ∈ cs → x ∈ c → valL lits x = 0 → (∀ y ∈ c, y = x ∨ (valL lits y ≠ 1 ∧ valL lits y ≠ 0)) → (∀ c ∈ cs, ¬ FalseC (valL lits) c) → P (lits ++ [x]))
    (conf : ∀ lits k c, P lits → 0 ≤ k → c ∈ cs → FalseC (valL lits) c → Q (lits, k))
    (none : ∀ lits, P lits → (∀ c ∈ cs, ¬ FalseC (valL lits) c) → (∀ c ∈ cs, (stF (valL lits) c 0 (-1)).1 ≠ 2) → Q (lits, -1)) :
    ∀ (n : Nat) (lits : List Int), openN cs lits ≤ n → P lits → Q (runL cs lits) := by
  intro n
  induction n with
  | zero =>
    intro lits hn hp
    rw [runL]
    rcases look_cases (valL lits) cs with ⟨h0, c, hc, hf⟩ | ⟨h1, h2, h3, h4⟩ | ⟨-, -, -, c, hc, hx, hv, -⟩
    · rw [if_pos h0]; exact conf lits _ c hp h0 hc hf
    · rw [if_neg (by omega), if_pos h2]; exact none lits hp h3 h4
    · exfalso
      have := openN_push hc hx hv
      omega
  | succ n ih =>
    intro lits hn hp
    rw [runL]
    rcases look_cases (valL lits) cs with ⟨h0, c, hc, hf⟩ | ⟨h1, h2, h3, h4⟩ | ⟨h1, h2, h3, c, hc, hx, hv, ho⟩
    · rw [if_pos h0]; exact conf lits _ c hp h0 hc hf
    · rw [if_neg (by omega), if_pos h2]; exact none lits hp h3 h4
    · rw [if_neg (by omega), if_neg h2]
      have := openN_push hc hx hv
      exact ih _ (by omega) (step lits _ c hp hc hx hv ho h3)

/-- What is given, put. -/
def givenM : List Int → List Int → List Int × Bool
  | [], lits => (lits, true)
  | x :: r, lits => if wideM x = true then givenM r lits else if valL lits x = 1 then givenM r lits else if valL lits x = 2 then (lits, false) else givenM r (lits ++ [x])
def runM (cs : List (List Int)) (given : List Int) : List Int × Int := if (givenM given []).2 = true then runL (cs.map plainM) (givenM given []).1 else ((givenM given []).1, -2)

theorem given_ind {P : List Int → Prop} : ∀ (g lits : List Int), P lits → (∀ lits x, P lits → x ∈ g → wideM x = false → valL lits x = 0 → P (lits ++ [x])) → P (givenM g lits).1
  | [], _, h, _ => h
  | x :: r, lits, h, st => by
    unfold givenM
    have st' := fun lits y hp hy => st lits y hp (List.mem_cons_of_mem _ hy)
    by_cases hw : wideM x = true
    · rw [if_pos hw]; exact given_ind r lits h st'
    rw [if_neg hw]
    by_cases h1 : valL lits x = 1
    · rw [if_pos h1]; exact given_ind r lits h st'
    rw [if_neg h1]
    by_cases h2 : valL lits x = 2
    · rw [if_pos h2]; exact h
    rw [if_neg h2]
    exact given_ind r _ (st lits x h List.mem_cons_self (by simpa using hw) (by rcases valL_cases lits x with e | e | e <;> simp_all)) st'
theorem given_all : ∀ (g lits : List Int), (givenM g lits).2 = true → (∀ x ∈ lits, x ∈ (givenM g lits).1) ∧ ∀ x ∈ g, wideM x = false → x ∈ (givenM g lits).1
  | [], _, _ => ⟨fun _ h => h, fun x hx => by cases hx⟩
  | x :: r, lits, h => by
    unfold givenM at h ⊢
    by_cases hw : wideM x = true
    · rw [if_pos hw] at h ⊢
      obtain ⟨a, b⟩ := given_all r lits h
      refine ⟨a, fun y hy hyw => ?_⟩
      rcases List.mem_cons.1 hy with rfl | hy
      · rw [hw] at hyw; cases hyw
      · exact b y hy hyw
    rw [if_neg hw] at h ⊢
    by_cases h1 : valL lits x = 1
    · rw [if_pos h1] at h ⊢
      obtain ⟨a, b⟩ := given_all r lits h
      refine ⟨a, fun y hy hyw => ?_⟩
      rcases List.mem_cons.1 hy with rfl | hy
      · exact a _ (valL_one.1 h1)
      · exact b y hy hyw
    rw [if_neg h1] at h ⊢
    by_cases h2 : valL lits x = 2
    · rw [if_pos h2] at h; cases h
    rw [if_neg h2] at h ⊢
    obtain ⟨a, b⟩ := given_all r _ h
    refine ⟨fun y hy => a y (List.mem_append_left _ hy), fun y hy hyw => ?_⟩
    rcases List.mem_cons.1 hy with rfl | hy
    · exact a _ (by simp)
    · exact b y hy hyw
theorem given_no : ∀ (g lits : List Int), (givenM g lits).2 = false → ∃ x ∈ g, wideM x = false ∧ valL (givenM g lits).1 x = 2
  | [], _, h => by cases h
  | x :: r, lits, h => by
    unfold givenM at h ⊢
    have up : (∃ y ∈ r, wideM y = false ∧ valL (givenM r lits).1 y = 2) → ∃ y ∈ x :: r, wideM y = false ∧ valL (givenM r lits).1 y = 2 := fun ⟨y, hy, e⟩ => ⟨y, List.mem_cons_of_mem _ hy, e⟩
    by_cases hw : wideM x = true
    · rw [if_pos hw] at h ⊢; exact up (given_no r lits h)
    rw [if_neg hw] at h ⊢
    by_cases h1 : valL lits x = 1
    · rw [if_pos h1] at h ⊢; exact up (given_no r lits h)
    rw [if_neg h1] at h ⊢
    by_cases h2 : valL lits x = 2
    · rw [if_pos h2]; exact ⟨x, List.mem_cons_self, by simpa using hw, h2⟩
    rw [if_neg h2] at h ⊢
    obtain ⟨y, hy, e⟩ := given_no r _ h
    exact ⟨y, List.mem_cons_of_mem _ hy, e⟩
theorem plain_rng {c : List Int} {x : Int} (hx : x ∈ plainM c) : 0 ≤ x ∧ x ≤ 1048576 := by
  obtain ⟨_, h⟩ := List.mem_filter.1 hx
  exact (wide_iff x).1 (by simpa using h)
theorem given_ok (g : List Int) : LitsOk (givenM g []).1 := given_ind (P := LitsOk) g [] LitsOk.nil fun _ x hp _ hw hv => hp.push ((wide_iff x).1 hw) hv
theorem run_lits (cs : List (List Int)) (given : List Int) : LitsOk (runM cs given).1 := by
  unfold runM
  split
  · refine runL_ind (P := LitsOk) (Q := fun r => LitsOk r.1) (fun lits x c hp hc hx hv _ _ => ?_) (fun _ _ _ hp _ _ _ => hp) (fun _ hp _ _ => hp) _ _ (Nat.le_refl _) (given_ok given)
    obtain ⟨d, _, rfl⟩ := List.mem_map.1 hc
    exact hp.push (plain_rng hx) hv
  · exact given_ok given

/-- An assignment that clauses hold in no unit of, nor are false in. -/
def Closed (cs : List (List Int)) (T : List Int) : Prop := ∀ c ∈ cs, ¬ FalseC (valL T) c ∧ (stF (valL T) c 0 (-1)).1 ≠ 2
theorem run_none {cs : List (List Int)} {given : List Int} (h : (runM cs given).2 = -1) : (∀ x ∈ given, wideM x = false → x ∈ (runM cs given).1) ∧ Closed (cs.map plainM) (runM cs given).1 := by
  unfold runM at h ⊢
  by_cases hg : (givenM given []).2 = true
  · rw [if_pos hg] at h ⊢
    have := runL_ind (cs := cs.map plainM) (P := fun l => ∀ x ∈ (givenM given []).1, x ∈ l) (Q := fun r => r.2 = -1 → (∀ x ∈ (givenM given []).1, x ∈ r.1) ∧ Closed (cs.map plainM) r.1)
      (fun lits x c hp _ _ _ _ _ y hy => List.mem_append_left _ (hp y hy)) (fun lits k c _ h0 _ _ e => by simp only at e; omega) (fun lits hp h1 h2 _ => ⟨hp, fun c hc => ⟨h1 c hc, h2 c hc⟩⟩) _ (givenM given []).1 (Nat.le_refl _) (fun x hx => hx) h
    exact ⟨fun x hx hw => this.1 x ((given_all given [] hg).2 x hx hw), this.2⟩
  · rw [if_neg hg] at h; cases h
/-- What is put is in each closed assignment. -/
theorem run_least {cs : List (List Int)} {given T : List Int} (hT : LitsOk T) (hg : ∀ x ∈ given, wideM x = false → x ∈ T) (hn : ∀ c ∈ cs.map plainM, c.Nodup) (hc : Closed (cs.map plainM) T) : (runM cs given).2 = -1 ∧ ∀ x ∈ (runM cs given).1, x ∈ T := by
  have hgl : ∀ x ∈ (givenM given []).1, x ∈ T := given_ind (P := fun l => ∀ x ∈ l, x ∈ T) given [] (fun x hx => by cases hx) fun lits x hp hx hw _ y hy => by
    rcases List.mem_append.1 hy with hy | hy
    · exact hp y hy
    · rw [List.mem_singleton.1 hy]; exact hg x hx hw
  have sub : ∀ {lits : List Int}, (∀ x ∈ lits, x ∈ T) → ∀ y, valL lits y ≠ 1 → valL lits y ≠ 0 → valL T y ≠ 1 ∧ valL T y ≠ 0 := by
    intro lits hs y h1 h0
    rcases valL_cases lits y with e | e | e
    · exact absurd e h0
    · exact absurd e h1
    · obtain ⟨_, e2⟩ := valL_two.1 e
      have e3 := hs _ e2
      have e4 : y ∉ T := fun h => by have := hT.not_both h; exact this e3
      rw [valL_two.2 ⟨e4, e3⟩]
      exact ⟨by decide, by decide⟩
  unfold runM
  by_cases hgb : (givenM given []).2 = true
  · rw [if_pos hgb]
    refine runL_ind (cs := cs.map plainM) (P := fun l => ∀ x ∈ l, x ∈ T) (Q := fun r => r.2 = -1 ∧ ∀ x ∈ r.1, x ∈ T) (fun lits x c hp hcm hx hv ho hnf => ?_) (fun lits k c hp h0 hcm hf => ?_) (fun lits hp _ _ => ⟨rfl, hp⟩) _ _ (Nat.le_refl _) hgl
    · intro y hy
      rcases List.mem_append.1 hy with hy | hy
      · exact hp y hy
      · rw [List.mem_singleton.1 hy]
        have hrest : ∀ z ∈ c, z = x ∨ (valL T z ≠ 1 ∧ valL T z ≠ 0) := fun z hz => (ho z hz).imp id fun ⟨a, b⟩ => sub hp z a b
        rcases valL_cases T x with e | e | e
        · exact absurd (by rw [st_two_of (hn c hcm) hx e hrest]) (hc c hcm).2
        · exact valL_one.1 e
        · refine absurd (fun z hz => ?_) (hc c hcm).1
          rcases hrest z hz with rfl | h
          · rw [e]; exact ⟨by decide, by decide⟩
          · exact h
    · exact absurd (fun z hz => sub hp z (hf z hz).1 (hf z hz).2) (hc c hcm).1
  · exfalso
    obtain ⟨x, hx, hw, hv⟩ := given_no given [] (by simpa using hgb)
    obtain ⟨_, h2⟩ := valL_two.1 hv
    exact hT.not_both (hg x hx hw) (hgl _ h2)
theorem ord_nodup {l : List Int} (h : Ord l) : l.Nodup := h.imp fun h => Int.ne_of_lt h
theorem plain_nodup (c : List Int) : (plainM c).Nodup := (ord_nodup (made_ord _)).filter _
theorem plains_nodup (cs : List (List Int)) : ∀ c ∈ cs.map plainM, c.Nodup := fun c hc => by
  obtain ⟨d, _, rfl⟩ := List.mem_map.1 hc
  exact plain_nodup d
end Go.Proofs.Ytfkjojogkdlcgaa
